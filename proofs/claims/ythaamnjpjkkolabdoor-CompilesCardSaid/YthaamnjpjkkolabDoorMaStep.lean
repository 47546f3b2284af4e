import Derived.Test.YthaamnjpjkkolabDoorTell
import Derived.Test.YthaamnjpjkkolabDoorMaHeap
import Derived.Test.YthaamnjpjkkolabDoorElz
/- Programs: steps, by their index; Check; the law's program; the reference's Check. -/
namespace Go.Proofs.YthaamnjpjkkolabDoor
open Go.RowKit Go.Proofs
set_option maxRecDepth 100000
set_option linter.unusedVariables false

/-- A step. -/
structure Stp where
  k : UInt8
  a : Int
  b : Int
  c : UInt8

/-- Its cells, as the program has them. -/
def sc (s : Stp) (j : Nat) : Value := if j = 0 then B s.k else if j = 1 then I s.a else if j = 2 then I s.b else B s.c
/-- Its cells, as the reference has them. -/
def rc (s : Stp) (j : Nat) : Value := if j = 0 then I (s.k.toNat : Int) else if j = 1 then I s.a else if j = 2 then I s.b else B s.c
/-- The cells of elements of four, one behind the other. -/
def el4 (f : Nat → Nat → Value) : Nat → Value := fun i => f (i / 4) (i % 4)
theorem el4_at (f : Nat → Nat → Value) (k j : Nat) (hj : j < 4) : el4 f (k * 4 + j) = f k j := by
  unfold el4; rw [show (k * 4 + j) / 4 = k by omega, show (k * 4 + j) % 4 = j by omega]

/-- A step that is none. -/
def OkStep (regs shards : Int) (s : Stp) : Prop :=
  0 ≤ s.a ∧ s.a < regs ∧ ((s.k.toNat = 0 ∨ s.k.toNat = 2) ∧ 0 ≤ s.b ∧ s.b < shards ∨ s.k.toNat = 1 ∧ 0 ≤ s.b ∧ s.b < regs ∧ s.a ≠ s.b)
def OkP (regs : Int) (n : Nat) (S : Nat → Stp) (shards : Int) : Prop := 0 ≤ regs ∧ regs ≤ 32 ∧ n ≤ 2000 ∧ ∀ i, i < n → OkStep regs shards (S i)
/-- Steps up to k that are right. -/
def OkTo (regs : Int) (k : Nat) (S : Nat → Stp) (shards : Int) : Prop := ∀ i, i < k → OkStep regs shards (S i)
theorem OkTo.next {regs shards : Int} {k : Nat} {S : Nat → Stp} (h : OkTo regs k S shards) (h' : OkStep regs shards (S k)) : OkTo regs (k + 1) S shards := fun i hi => by
  by_cases e : i = k
  · exact e ▸ h'
  · exact h i (by omega)

/-- The cells of step k. -/
structure At4 (w : World) (b o k : Nat) (f : Nat → Value) : Prop where
  c0 : w.cell? ⟨b, o + k * 4, none⟩ = some (f 0)
  c1 : w.cell? ⟨b, o + k * 4 + 1, none⟩ = some (f 1)
  c2 : w.cell? ⟨b, o + k * 4 + 2, none⟩ = some (f 2)
  c3 : w.cell? ⟨b, o + k * 4 + 3, none⟩ = some (f 3)
theorem Rd.at4 {w : World} {b o n k : Nat} {f : Nat → Nat → Value} (h : Rd w b o (n * 4) (el4 f)) (hk : k < n) : At4 w b o k (f k) :=
  ⟨by have := h (k * 4 + 0) (by omega); rw [el4_at _ _ _ (by omega)] at this; exact this, by have := h (k * 4 + 1) (by omega); rw [el4_at _ _ _ (by omega)] at this; exact this,
   by have := h (k * 4 + 2) (by omega); rw [el4_at _ _ _ (by omega)] at this; exact this, by have := h (k * 4 + 3) (by omega); rw [el4_at _ _ _ (by omega)] at this; exact this⟩

/-- Steps that lie in memory. -/
structure Stps (w : World) (a : Option Addr) (b o n c : Nat) (f : Nat → Nat → Value) : Prop where
  addr : 0 < n → a = some ⟨b, o, none⟩
  rd : Rd w b o (n * 4) (el4 f)
  cap : n ≤ c
  max : c ≤ 9223372036854775807
theorem Stps.later {w w' : World} {a : Option Addr} {b o n c : Nat} {f : Nat → Nat → Value} (h : Stps w a b o n c f) (hb : Below w.heap.size w w') : Stps w' a b o n c f := ⟨h.addr, h.rd.later hb, h.cap, h.max⟩
theorem Stps.upd {w w' : World} {G : Nat → Prop} {a : Option Addr} {b o n c : Nat} {f : Nat → Nat → Value} (h : Stps w a b o n c f) (hu : Upd G w w') (hg : 0 < n → ¬ G b) : Stps w' a b o n c f :=
  ⟨h.addr, h.rd.upd hu (fun h0 => hg (by omega)), h.cap, h.max⟩

theorem bfalse {a b : Int} (h : a ≠ b) : (a == b) = false := by simpa using h
theorem btrue {a b : Int} (h : a = b) : (a == b) = true := by simpa using h
theorem nfalse {a b : Int} (h : a = b) : (a != b) = false := by simpa using h
theorem ntrue {a b : Int} (h : a ≠ b) : (a != b) = true := by simpa using h

/-- Is it a number below n? -/
def inB (x n : Int) : Bool := decide (0 ≤ x ∧ x < n)
theorem inB_t {x n : Int} (h : inB x n = true) : 0 ≤ x ∧ x < n := by simpa [inB] using h
theorem inB_f {x n : Int} (h : inB x n = false) : ¬ (0 ≤ x ∧ x < n) := by simpa [inB] using h
set_option maxHeartbeats 400000 in
theorem in_any (x n : Int) (w : World) : Calls Tryd.prog 67 #[I x, I n] w fun e w' => e = .returned (.bool (inB x n)) ∧ w = w' := by
  by_cases h : 0 ≤ x
  · by_cases h' : x < n
    · have HE := Lib.hid (show inB x n = true by unfold inB; simp; omega)
      go_enter Tryd.func67, Tryd.ntmps67
      go_wp2_with fail
      go_ret
      exact ⟨by rw [HE.out]; simp, rfl⟩
    · have HE := Lib.hid (show inB x n = false by unfold inB; simp; omega)
      go_enter Tryd.func67, Tryd.ntmps67
      go_wp2_with fail
      go_ret
      exact ⟨by rw [HE.out]; simp, rfl⟩
  · have HE := Lib.hid (show inB x n = false by unfold inB; simp; omega)
    have hd : decide (0 ≤ x) = false := by simpa using h
    go_enter Tryd.func67, Tryd.ntmps67
    go_wp2_with fail
    go_ret
    exact ⟨by rw [HE.out]; rfl, rfl⟩

def CheckIs (P : Prop) (w : World) (e : Ending) (w' : World) : Prop := (P ∧ e = .returned .nilIface ∨ ¬ P ∧ e = .returned (.iface 33 (I 4))) ∧ Below w.heap.size w w'

set_option maxHeartbeats 2000000 in
theorem check_any (a : Option Addr) (b o n c : Nat) (S : Nat → Stp) (regs shards : Int) (w : World) (h : Stps w a b o n c fun i => sc (S i)) :
    Calls Tryd.prog 52 #[.agg #[I regs, .slice a n c], I shards] w (CheckIs (OkP regs n S shards) w) := by
  have HS := Lib.hid h
  have hcap := h.cap; have hmax := h.max
  clear h
  have HB := Lib.hid ((Below.refl w.heap.size w).alloc (Nat.le_refl _) (.cells #[I regs, .slice a n c] 39))
  by_cases h1 : regs < 0
  · go_enter Tryd.func52, Tryd.ntmps52
    go_wp2_with fail
    go_ret
    exact ⟨.inr ⟨fun h => by have := h.1; omega, rfl⟩, HB.out⟩
  by_cases h2 : 32 < regs
  · go_enter Tryd.func52, Tryd.ntmps52
    go_wp2_with fail
    go_ret
    exact ⟨.inr ⟨fun h => by have := h.2.1; omega, rfl⟩, HB.out⟩
  by_cases h3 : 2000 < n
  · go_enter Tryd.func52, Tryd.ntmps52
    go_wp2_with fail
    go_ret
    exact ⟨.inr ⟨fun h => by have := h.2.2.1; omega, rfl⟩, HB.out⟩
  go_enter Tryd.func52, Tryd.ntmps52
  go_wp2_with fail
  go_loopg [27] n (fun g i wr => ∃ k : Nat, g = n - k ∧ k ≤ n ∧ i = I k ∧ Below w.heap.size w wr ∧ Below (w.heap.size + 1) (w.alloc (.cells #[I regs, .slice a n c] 39)) wr ∧ OkTo regs k S shards)
  case atStart => exact ⟨0, rfl, by omega, rfl, HB.out, Below.refl _ _, fun i hi => absurd hi (by omega)⟩
  case round =>
    obtain ⟨k, rfl, hk, rfl, hb, hb2, ho⟩ := hrel
    have HB1 := Lib.hid hb
    have HB2 := Lib.hid hb2
    have HO := Lib.hid ho
    clear hb hb2 ho
    by_cases hlt : k < n
    · obtain rfl := HS.out.addr (by omega)
      have hat := (HS.out.later HB1.out).rd.at4 hlt
      have p0 : wr.cell? ⟨w.heap.size, 0, none⟩ = some (I regs) := (HB2.out.cell (p := ⟨w.heap.size, 0, none⟩) (by simp)).trans (by simp)
      have hsz : w.heap.size < wr.heap.size := by have := HB2.out.size; rw [Deep.nblk_alloc] at this; omega
      obtain ⟨s, hs⟩ : ∃ s, s = S k := ⟨_, rfl⟩
      rw [← hs] at hat
      have HSk := Lib.hid hs
      have c0 : wr.cell? ⟨b, o + k * 4, none⟩ = some (B s.k) := hat.c0
      have c1 : wr.cell? ⟨b, o + k * 4 + 1, none⟩ = some (I s.a) := hat.c1
      have c2 : wr.cell? ⟨b, o + k * 4 + 2, none⟩ = some (I s.b) := hat.c2
      have c3 : wr.cell? ⟨b, o + k * 4 + 3, none⟩ = some (B s.c) := hat.c3
      clear hs hat
      have HN := Lib.hid ((HB1.out.alloc HB1.out.size (.cells #[B s.k, I s.a, I s.b, B s.c] 84)))
      have HN2 := Lib.hid ((HB2.out.alloc (by omega) (.cells #[B s.k, I s.a, I s.b, B s.c] 84)))
      have HY := Lib.hid (fun h : OkStep regs shards s => HO.out.next (HSk.out ▸ h))
      have HX := Lib.hid (fun h : ¬ OkStep regs shards s => (show ¬ OkP regs n S shards from fun h' => h (HSk.out ▸ h'.2.2.2 k hlt)))
      clear HO HSk
      rcases (show s.k.toNat = 0 ∨ s.k.toNat = 1 ∨ s.k.toNat = 2 ∨ 2 < s.k.toNat by omega) with e | e | e | e
      · have t0 := btrue (a := (s.k.toNat : Int)) (b := 0) (by omega)
        have HE := Lib.hid e
        clear e
        cases ha : inB s.a regs with
        | false =>
          have HA := Lib.hid ha
          go_wp2_with (go_at_call 67; refine (in_any _ _ _).mono ?_; rintro e w1 ⟨rfl, rfl⟩)
          (go_ret; exact ⟨.inr ⟨HX.out fun h => by have h0 := HE.out; have h1 := inB_f HA.out; unfold OkStep at h; omega, rfl⟩, HN.out⟩)
        | true =>
          have HA := Lib.hid ha
          cases hc : inB s.b shards with
          | false =>
            have HC := Lib.hid hc
            go_wp2_with (go_at_call 67; refine (in_any _ _ _).mono ?_; rintro e w1 ⟨rfl, rfl⟩)
            (go_ret; exact ⟨.inr ⟨HX.out fun h => by have h0 := HE.out; have h1 := inB_f HC.out; unfold OkStep at h; omega, rfl⟩, HN.out⟩)
          | true =>
            have HC := Lib.hid hc
            go_wp2_with (go_at_call 67; refine (in_any _ _ _).mono ?_; rintro e w1 ⟨rfl, rfl⟩)
            (go_roundg (n - (k + 1)); (case measure => omega); (case rel => exact ⟨k + 1, rfl, by omega, by go_num, HN.out, HN2.out, HY.out (by have h0 := HE.out; have h1 := inB_t HA.out; have h2 := inB_t HC.out; unfold OkStep; omega)⟩))
      · have t0 := bfalse (a := (s.k.toNat : Int)) (b := 0) (by omega)
        have t2 := bfalse (a := (s.k.toNat : Int)) (b := 2) (by omega)
        have t1 := btrue (a := (s.k.toNat : Int)) (b := 1) (by omega)
        have HE := Lib.hid e
        clear e
        cases ha : inB s.a regs with
        | false =>
          have HA := Lib.hid ha
          go_wp2_with (go_at_call 67; refine (in_any _ _ _).mono ?_; rintro e w1 ⟨rfl, rfl⟩)
          (go_ret; exact ⟨.inr ⟨HX.out fun h => by have h0 := HE.out; have h1 := inB_f HA.out; unfold OkStep at h; omega, rfl⟩, HN.out⟩)
        | true =>
          have HA := Lib.hid ha
          cases hc : inB s.b regs with
          | false =>
            have HC := Lib.hid hc
            go_wp2_with (go_at_call 67; refine (in_any _ _ _).mono ?_; rintro e w1 ⟨rfl, rfl⟩)
            (go_ret; exact ⟨.inr ⟨HX.out fun h => by have h0 := HE.out; have h1 := inB_f HC.out; unfold OkStep at h; omega, rfl⟩, HN.out⟩)
          | true =>
            have HC := Lib.hid hc
            by_cases hab : s.a = s.b
            · have t3 := nfalse hab
              have HAB := Lib.hid hab
              clear hab
              go_wp2_with (go_at_call 67; refine (in_any _ _ _).mono ?_; rintro e w1 ⟨rfl, rfl⟩)
              (go_ret; exact ⟨.inr ⟨HX.out fun h => by have h0 := HE.out; have h1 := HAB.out; unfold OkStep at h; omega, rfl⟩, HN.out⟩)
            · have t3 := ntrue hab
              have HAB := Lib.hid hab
              clear hab
              go_wp2_with (go_at_call 67; refine (in_any _ _ _).mono ?_; rintro e w1 ⟨rfl, rfl⟩)
              (go_roundg (n - (k + 1)); (case measure => omega); (case rel => exact ⟨k + 1, rfl, by omega, by go_num, HN.out, HN2.out, HY.out (by have h0 := HE.out; have h1 := inB_t HA.out; have h2 := inB_t HC.out; have h3 := HAB.out; unfold OkStep; omega)⟩))
      · have t0 := bfalse (a := (s.k.toNat : Int)) (b := 0) (by omega)
        have t2 := btrue (a := (s.k.toNat : Int)) (b := 2) (by omega)
        have HE := Lib.hid e
        clear e
        cases ha : inB s.a regs with
        | false =>
          have HA := Lib.hid ha
          go_wp2_with (go_at_call 67; refine (in_any _ _ _).mono ?_; rintro e w1 ⟨rfl, rfl⟩)
          (go_ret; exact ⟨.inr ⟨HX.out fun h => by have h0 := HE.out; have h1 := inB_f HA.out; unfold OkStep at h; omega, rfl⟩, HN.out⟩)
        | true =>
          have HA := Lib.hid ha
          cases hc : inB s.b shards with
          | false =>
            have HC := Lib.hid hc
            go_wp2_with (go_at_call 67; refine (in_any _ _ _).mono ?_; rintro e w1 ⟨rfl, rfl⟩)
            (go_ret; exact ⟨.inr ⟨HX.out fun h => by have h0 := HE.out; have h1 := inB_f HC.out; unfold OkStep at h; omega, rfl⟩, HN.out⟩)
          | true =>
            have HC := Lib.hid hc
            go_wp2_with (go_at_call 67; refine (in_any _ _ _).mono ?_; rintro e w1 ⟨rfl, rfl⟩)
            (go_roundg (n - (k + 1)); (case measure => omega); (case rel => exact ⟨k + 1, rfl, by omega, by go_num, HN.out, HN2.out, HY.out (by have h0 := HE.out; have h1 := inB_t HA.out; have h2 := inB_t HC.out; unfold OkStep; omega)⟩))
      · have t0 := bfalse (a := (s.k.toNat : Int)) (b := 0) (by omega)
        have t2 := bfalse (a := (s.k.toNat : Int)) (b := 2) (by omega)
        have t1 := bfalse (a := (s.k.toNat : Int)) (b := 1) (by omega)
        have HE := Lib.hid e
        clear e
        go_wp2_with (go_at_call 67; refine (in_any _ _ _).mono ?_; rintro e w1 ⟨rfl, rfl⟩)
        (go_ret; exact ⟨.inr ⟨HX.out fun h => by have h0 := HE.out; have h1 := True.intro; unfold OkStep at h; omega, rfl⟩, HN.out⟩)
    · obtain rfl : n = k := by omega
      go_wp2_with fail
      go_ret
      exact ⟨.inl ⟨⟨h1, h2, by omega, HO.out⟩, rfl⟩, HB1.out⟩
end Go.Proofs.YthaamnjpjkkolabDoor

/- The law's program; the reference's Check. -/
namespace Go.Proofs.YthaamnjpjkkolabDoor
open Go.RowKit Go.Proofs
set_option maxRecDepth 100000
set_option linter.unusedVariables false

/-- An own slice of n elements of four cells. -/
def V4 (w : World) (base e : Nat) (v : Value) (n : Nat) (f : Nat → Nat → Value) : Prop := w.ownsRow base e 4 v n ((List.range (n * 4)).map (el4 f))

section
variable {w w' : World} {base e n : Nat} {v : Value} {f g : Nat → Nat → Value}
theorem V4.nil (w : World) (base e : Nat) (f : Nat → Nat → Value) : V4 w base e (.slice none 0 0) 0 f := World.ownsRow_nil w base e 4
theorem V4.lt (h : V4 w base e v n f) : ∀ k, v.ownBlock = some k → base ≤ k ∧ k < w.heap.size := World.ownsRow.lt h
theorem V4.congr (h : V4 w base e v n f) (hfg : ∀ i, i < n → ∀ j, j < 4 → f i j = g i j) : V4 w base e v n g := by
  unfold V4 at *
  rwa [show (List.range (n * 4)).map (el4 g) = (List.range (n * 4)).map (el4 f) from List.map_congr_left fun i hi => by
    have : i < n * 4 := by simpa using hi
    exact (hfg (i / 4) (by omega) (i % 4) (by omega)).symm]
theorem V4.kept {G : Nat → Prop} (h : V4 w base e v n f) (hu : Upd G w w') (hne : ∀ k, v.ownBlock = some k → ¬ G k) : V4 w' base e v n f := by
  refine ⟨h.1, ?_⟩
  rcases h.2 with hn | ⟨g, cap, cur, rfl, hb, hg, rest⟩
  · exact .inl hn
  · exact .inr ⟨g, cap, cur, rfl, hb, by rw [hu.block g (Array.getElem?_eq_some_iff.1 hg).1 (hne g rfl)]; exact hg, rest⟩
theorem V4.alloc (h : V4 w base e v n f) (o : Obj) : V4 (w.alloc o) base e v n f := World.ownsRow.alloc h o
theorem V4.later (h : V4 w base e v n f) (hb : Below w.heap.size w w') : V4 w' base e v n f := h.kept (Upd.of_below hb) (fun _ _ => id)
theorem V4.block_ne {b t : Nat} (h : V4 w base e v n f) (hk : Kd w b t) (ht : t ≠ e) : ∀ k, v.ownBlock = some k → k ≠ b := by
  intro k hv
  rcases h.2 with ⟨rfl, _⟩ | ⟨g, cap, cur, rfl, _, hg, _⟩
  · simp [Value.ownBlock] at hv
  · simp [Value.ownBlock] at hv
    subst hv
    exact (Kd.ne hk ⟨cur, hg⟩ ht).symm
/-- What such a slice is, as the walk sees it. -/
theorem V4.shape (h : V4 w base e v n f) : ∃ a b c, v = .slice a n c ∧ Stps w a b 0 n c f ∧ (∀ k, v.ownBlock = some k → k = b) ∧ (0 < n → base ≤ b) := by
  obtain ⟨hl, h⟩ := h
  rcases h with ⟨rfl, rfl⟩ | ⟨g, cap, cur, rfl, hb, hg, hn', hm, hs, ht⟩
  · exact ⟨none, 0, 0, rfl, ⟨fun h => absurd h (by omega), Rd.empty _ _ _ _, Nat.le_refl _, by omega⟩, by simp [Value.ownBlock], fun h => absurd h (by omega)⟩
  · refine ⟨_, g, cap, rfl, ⟨fun _ => rfl, fun i hi => ?_, hn', by unfold maxLen at hm; omega⟩, by simp [Value.ownBlock], fun _ => hb⟩
    simp only [World.cell?, hg, Nat.zero_add]
    have : cur.toList[i]? = some (el4 f i) := by
      have e2 : (cur.toList.take (n * 4))[i]? = ((List.range (n * 4)).map (el4 f))[i]? := by rw [ht]
      rw [List.getElem?_take, if_pos (by omega)] at e2
      rw [e2]; simp [hi]
    simpa using this
end

theorem addr_add (b o j : Nat) : (⟨b, o, none⟩ : Addr).add j = ⟨b, o + j, none⟩ := by unfold Addr.add; split <;> simp_all
theorem cell_new (w : World) (c : Array Value) (t j : Nat) : (w.alloc (.cells c t)).cell? ⟨w.heap.size, j, none⟩ = c[j]? := by
  unfold World.cell?; rw [Deep.blk_alloc_new]; simp
theorem frozen_new (w : World) (c : Array Value) (t j : Nat) : (w.alloc (.cells c t)).frozen? ⟨w.heap.size, j, none⟩ = false := by
  unfold World.frozen?; rw [Deep.blk_alloc_new]; simp

section
variable {P : Program}
/-- 'append(s, x)', x of four cells: they lie in a block of their own. -/
theorem wpList_append_four {w : World} {ops : Array Oper} {rest : List Oper} {o : Oper} {a : Act} {Q : Exit → Act → World → Prop} (hgd : o.guard = none) (s x : Operand) (t : TypeId)
    (ho : o.op = .call { callee := .builtin .append, args := #[s, x], argTypes := #[t, t] })
    (base : Nat) (e : TypeId) (z : Value) (bytes : Nat) (ht : P.underlying t = some (.slice e)) (hinfo : (P.info? e).map (fun i => (i.zero, i.size, i.bytes)) = some (some z, 4, bytes)) (hz1 : z.cells.size = 4)
    (v : Value) (n : Nat) (f : Nat → Nat → Value) (hs : a.eval s = v) (hown : V4 w base e v n f) (u : Nat → Value) (tu : TypeId) (hx : a.eval x = .slice (some ⟨w.heap.size, 0, none⟩) 1 1) (h1 : ∀ j, j < 4 → (u j).oneCell' = true)
    (h63 : n + 1 ≤ 1099511627776) (hby : bytes ≤ 64) (hbase : base ≤ w.heap.size)
    (h : ∀ v' w', V4 w' base e v' (n + 1) (fun i => if i < n then f i else u) → Upd (fun b => some b = v.ownBlock) w w' → wpList P ops Q rest (a.put o.dst v') w') : wpList P ops Q (o :: rest) a (w.alloc (.cells #[u 0, u 1, u 2, u 3] tu)) := by
  obtain ⟨i, hi, hz, hsz, hb⟩ := info_parts hinfo
  refine wpList_append_own _ hgd s x t ho base e i z 4 bytes ht hi hz hsz hb hz1 (by decide) v n _ hs (hown.alloc _) ⟨w.heap.size, 0, none⟩ 1 1 [u 0, u 1, u 2, u 3] hx rfl ?_ ?_ (by unfold maxLen; omega) ?_ (by rw [Deep.nblk_alloc]; omega) ?_
  · intro j v hj
    match j, hj with
    | 0, hj => simp at hj; subst hj; rw [addr_add, cell_new]; simp
    | 1, hj => simp at hj; subst hj; rw [addr_add, cell_new]; simp
    | 2, hj => simp at hj; subst hj; rw [addr_add, cell_new]; simp
    | 3, hj => simp at hj; subst hj; rw [addr_add, cell_new]; simp
    | j + 4, hj => simp at hj
  · intro v hv
    simp at hv
    rcases hv with rfl | rfl | rfl | rfl <;> exact h1 _ (by omega)
  · calc (n + 1) * bytes ≤ 1099511627776 * 64 := Nat.mul_le_mul h63 hby
      _ ≤ _ := by omega
  · intro v' w' hv hg _
    have hmap : (List.range ((n + 1) * 4)).map (el4 fun i => if i < n then f i else u) = (List.range (n * 4)).map (el4 f) ++ [u 0, u 1, u 2, u 3] := by
      rw [show (n + 1) * 4 = n * 4 + 4 by omega, List.range_add, List.map_append]
      congr 1
      · refine List.map_congr_left fun i hi => ?_
        have : i < n * 4 := by simpa using hi
        show (if i / 4 < n then f (i / 4) else u) (i % 4) = f (i / 4) (i % 4)
        rw [if_pos (by omega)]
      · have key : ∀ j, j < 4 → el4 (fun i => if i < n then f i else u) (n * 4 + j) = u j := fun j hj => by
          rw [el4_at _ _ _ hj, if_neg (by omega)]
        simp [List.range_succ, key]
        have := key 0 (by omega)
        simpa using this
    refine h v' w' (by unfold V4; rw [hmap]; exact hv) ?_
    exact ((Upd.refl _ w).alloc _).trans (Upd.of_grown hg) fun b hb _ => hb
end

theorem infoRS : (Tryd.prog.info? 86).map (fun i => (i.zero, i.size, i.bytes)) = some (some (.agg #[.int .i64 0, .int .i64 0, .int .i64 0, .int .u8 0]), 4, 32) := by kernel_rfl

/-- Two cells of a block. -/
structure Pair (w : World) (b t : Nat) (x y : Value) : Prop where
  c0 : w.cell? ⟨b, 0, none⟩ = some x
  c1 : w.cell? ⟨b, 1, none⟩ = some y
  f0 : w.frozen? ⟨b, 0, none⟩ = false
  f1 : w.frozen? ⟨b, 1, none⟩ = false
  kd : Kd w b t
theorem Pair.new (w : World) (t : Nat) (x y : Value) : Pair (w.alloc (.cells #[x, y] t)) w.heap.size t x y :=
  ⟨by rw [cell_new]; rfl, by rw [cell_new]; rfl, frozen_new _ _ _ _, frozen_new _ _ _ _, Kd.new _ _ _⟩
theorem Pair.of_block {w w' : World} {b t : Nat} {x y : Value} (h : Pair w b t x y) (e : w'.heap[b]? = w.heap[b]?) : Pair w' b t x y :=
  ⟨(World.cell?_of_block (a := ⟨b, 0, none⟩) e).trans h.c0, (World.cell?_of_block (a := ⟨b, 1, none⟩) e).trans h.c1, (World.frozen?_of_block (a := ⟨b, 0, none⟩) e).trans h.f0, (World.frozen?_of_block (a := ⟨b, 1, none⟩) e).trans h.f1, h.kd.of_block e⟩
theorem Pair.upd {w w' : World} {G : Nat → Prop} {b t : Nat} {x y : Value} (h : Pair w b t x y) (hu : Upd G w w') (hg : ¬ G b) : Pair w' b t x y := h.of_block (hu.block b h.kd.lt hg)
theorem Pair.later {w w' : World} {b t : Nat} {x y : Value} (h : Pair w b t x y) (hb : Below w.heap.size w w') : Pair w' b t x y := h.of_block (hb.block b h.kd.lt)
theorem Pair.alloc {w : World} {b t : Nat} {x y : Value} (h : Pair w b t x y) (o : Obj) : Pair (w.alloc o) b t x y := h.of_block (Deep.blk_alloc_lt _ _ _ h.kd.lt)
theorem Pair.set1 {w : World} {b t : Nat} {x y : Value} (h : Pair w b t x y) (v : Value) : Pair (w.setCell ⟨b, 1, none⟩ v) b t x v :=
  ⟨by rw [cell_set_off (by omega)]; exact h.c0, cell_set_same h.c1 v, by rw [frozen_set]; exact h.f0, by rw [frozen_set]; exact h.f1, h.kd.set _ _⟩

/-- The law's program, in the making. -/
structure Progd (w wr : World) (k : Nat) (S : Nat → Stp) (regs : Int) (a : Option Addr) (n c : Nat) (v : Value) : Prop where
  below : Below w.heap.size w wr
  par : Pair wr w.heap.size 39 (I regs) (.slice a n c)
  res : Pair wr (w.heap.size + 1) 51 (I 0) (.slice none 0 0)
  out : Pair wr (w.heap.size + 2) 51 (I regs) v
  vs : V4 wr w.heap.size 86 v k (fun i => rc (S i))
theorem Progd.start (w : World) (S : Nat → Stp) (regs : Int) (a : Option Addr) (n c : Nat) :
    Progd w (((w.alloc (.cells #[I regs, .slice a n c] 39)).alloc (.cells #[I 0, .slice none 0 0] 51)).alloc (.cells #[I regs, .slice none 0 0] 51)) 0 S regs a n c (.slice none 0 0) := by
  have e1 : (w.alloc (.cells #[I regs, .slice a n c] 39)).heap.size = w.heap.size + 1 := Deep.nblk_alloc _ _
  have e2 : ((w.alloc (.cells #[I regs, .slice a n c] 39)).alloc (.cells #[I 0, .slice none 0 0] 51)).heap.size = w.heap.size + 2 := by rw [Deep.nblk_alloc, e1]
  exact ⟨(((Below.refl _ _).alloc (Nat.le_refl _) _).alloc (by omega) _).alloc (by omega) _, ((Pair.new w _ _ _).alloc _).alloc _, e1 ▸ (Pair.new _ _ _ _).alloc _, e2 ▸ Pair.new _ _ _ _, V4.nil _ _ _ _⟩
theorem Progd.next {w wr w3 : World} {k : Nat} {S : Nat → Stp} {regs : Int} {a : Option Addr} {n c : Nat} {v v3 : Value} (h : Progd w wr k S regs a n c v) {o : Obj}
    (hv : V4 w3 w.heap.size 86 v3 (k + 1) (fun i => if i < k then rc (S i) else rc (S k))) (hu : Upd (fun b => some b = v.ownBlock) (wr.alloc o) w3) :
    Progd w (w3.setCell ⟨w.heap.size + 2, 1, none⟩ v3) (k + 1) S regs a n c v3 ∧ w3.cell? ⟨w.heap.size + 2, 1, none⟩ = some v ∧ w3.frozen? ⟨w.heap.size + 2, 1, none⟩ = false := by
  have hne : ∀ {b t x y}, Pair wr b t x y → t ≠ 86 → ¬ some b = v.ownBlock := fun hp ht e => h.vs.block_ne hp.kd ht _ e.symm rfl
  have hp := (h.par.alloc o).upd hu (hne h.par (by decide))
  have hr := (h.res.alloc o).upd hu (hne h.res (by decide))
  have ho := (h.out.alloc o).upd hu (hne h.out (by decide))
  have hs := h.below.size
  have hU : Upd (fun b => b = w.heap.size + 2) w3 (w3.setCell ⟨w.heap.size + 2, 1, none⟩ v3) := (Upd.refl (fun b => b = w.heap.size + 2) w3).setCell (a := ⟨w.heap.size + 2, 1, none⟩) (fun _ => rfl) v3
  refine ⟨⟨?_, hp.upd hU (by omega), hr.upd hU (by omega), ho.set1 v3, ?_⟩, ho.c1, ho.f1⟩
  · refine Below.upd (Below.upd (h.below.alloc hs o) hu (fun b e => (h.vs.lt b e.symm).1) (by rw [Deep.nblk_alloc]; omega)) hU (fun b e => by omega) ?_
    have := hu.size; rw [Deep.nblk_alloc] at this; omega
  · refine (hv.kept hU fun t ht e => ?_).congr fun i hi j _ => ?_
    · exact hv.block_ne ho.kd (by decide) t ht e
    · by_cases e : i < k
      · rw [if_pos e]
      · rw [if_neg e, show i = k by omega]

def ProgIs (w : World) (n : Nat) (S : Nat → Stp) (regs : Int) (e : Ending) (w' : World) : Prop :=
  ∃ v, e = .returned (.agg #[I regs, v]) ∧ Below w.heap.size w w' ∧ V4 w' w.heap.size 86 v n (fun i => rc (S i))

set_option maxHeartbeats 1000000 in
theorem program_any (a : Option Addr) (b o n c : Nat) (S : Nat → Stp) (regs : Int) (w : World) (h : Stps w a b o n c fun i => sc (S i)) (hn : n ≤ 5000) :
    Calls Tryd.prog 18 #[.agg #[I regs, .slice a n c]] w (ProgIs w n S regs) := by
  have HS := Lib.hid h
  have hcap := h.cap; have hmax := h.max
  clear h
  have HP0 := Lib.hid (Progd.start w S regs a n c)
  go_enter Tryd.func18, Tryd.ntmps18
  go_wp2_with fail
  go_loopg [4] n (fun g i wr => ∃ (k : Nat) (v : Value), g = n - k ∧ k ≤ n ∧ i = I k ∧ Progd w wr k S regs a n c v)
  case atStart => exact ⟨0, _, rfl, by omega, rfl, HP0.out⟩
  case round =>
    obtain ⟨k, v, rfl, hk, rfl, hp⟩ := hrel
    obtain ⟨va, vb, vc, rfl, hsh⟩ := hp.vs.shape
    have HSH := Lib.hid hsh
    clear hsh
    have HP := Lib.hid hp
    clear HP0
    have p0 := hp.par.c0
    have p1 := hp.par.c1
    have q1 := hp.out.c1
    have g1 := hp.out.f1
    have hsz : w.heap.size + 2 < wr.heap.size := hp.out.kd.lt
    clear hp
    by_cases hlt : k < n
    · obtain rfl := HS.out.addr (by omega)
      have hat := (HS.out.later HP.out.below).rd.at4 hlt
      have c0 : wr.cell? ⟨b, o + k * 4, none⟩ = some (B (S k).k) := hat.c0
      have c1 : wr.cell? ⟨b, o + k * 4 + 1, none⟩ = some (I (S k).a) := hat.c1
      have c2 : wr.cell? ⟨b, o + k * 4 + 2, none⟩ = some (I (S k).b) := hat.c2
      have c3 : wr.cell? ⟨b, o + k * 4 + 3, none⟩ = some (B (S k).c) := hat.c3
      clear hat
      have HV := Lib.hid (HP.out.vs.alloc (.cells #[B (S k).k, I (S k).a, I (S k).b, B (S k).c] 84))
      have hq2 : (wr.alloc (.cells #[B (S k).k, I (S k).a, I (S k).b, B (S k).c] 84)).cell? ⟨w.heap.size + 1 + 1, 1, none⟩ = some (.slice va k vc) := (HP.out.out.alloc _).c1
      have s0 : (wr.alloc (.cells #[B (S k).k, I (S k).a, I (S k).b, B (S k).c] 84)).cell? ⟨wr.heap.size, 0, none⟩ = some (B (S k).k) := by rw [cell_new]; rfl
      have s1 : (wr.alloc (.cells #[B (S k).k, I (S k).a, I (S k).b, B (S k).c] 84)).cell? ⟨wr.heap.size, 1, none⟩ = some (I (S k).a) := by rw [cell_new]; rfl
      have s2 : (wr.alloc (.cells #[B (S k).k, I (S k).a, I (S k).b, B (S k).c] 84)).cell? ⟨wr.heap.size, 2, none⟩ = some (I (S k).b) := by rw [cell_new]; rfl
      have s3 : (wr.alloc (.cells #[B (S k).k, I (S k).a, I (S k).b, B (S k).c] 84)).cell? ⟨wr.heap.size, 3, none⟩ = some (B (S k).c) := by rw [cell_new]; rfl
      have hsz2 : w.heap.size ≤ (wr.alloc (.cells #[B (S k).k, I (S k).a, I (S k).b, B (S k).c] 84)).heap.size := by rw [Deep.nblk_alloc]; omega
      have HX := Lib.hid (fun v3 w3 => HP.out.next (v3 := v3) (w3 := w3) (o := .cells #[B (S k).k, I (S k).a, I (S k).b, B (S k).c] 84))
      go_upto_region 6 with fail
      clear p0 p1 q1 g1
      generalize wr.alloc (.cells #[B (S k).k, I (S k).a, I (S k).b, B (S k).c] 84) = W2 at *
      have hkk : (S k).k.toNat < 256 := (S k).k.toNat_lt
      have hkk0 : (0 : Int) ≤ ((S k).k.toNat : Int) := Int.natCast_nonneg _
      go_wp2_with (refine wpList_append_four rfl (.tmp 26) (.tmp 37) 49 rfl w.heap.size 86 (.agg #[.int .i64 0, .int .i64 0, .int .i64 0, .int .u8 0]) 32 Tryd.underlying49 infoRS rfl (.slice va k vc) k _ rfl HV.out (rc (S k)) 86 rfl (fun j hj => by rcases (show j = 0 ∨ j = 1 ∨ j = 2 ∨ j = 3 by omega) with rfl | rfl | rfl | rfl <;> rfl) (by omega) (by omega) hsz2 ?_; intro v3 w3 hv3 hu3; have HN := Lib.hid (HX.out v3 w3 hv3 hu3); obtain ⟨va3, vb3, vc3, rfl, _⟩ := hv3.shape; have n1 : w3.cell? ⟨w.heap.size + 1 + 1, 1, none⟩ = some (.slice va k vc) := HN.out.2.1; have n2 : w3.frozen? ⟨w.heap.size + 1 + 1, 1, none⟩ = false := HN.out.2.2; clear hv3 hu3)
      go_roundg (n - (k + 1))
      case measure => omega
      case rel => exact ⟨k + 1, _, rfl, by omega, by go_num, HN.out.1⟩
    · obtain rfl : n = k := by omega
      clear hcap
      have r0 := HP.out.res.c0
      have r1 := HP.out.res.c1
      have r2 := HP.out.res.f0
      have r3 := HP.out.res.f1
      have o0 := HP.out.out.c0
      have HB := Lib.hid HP.out.below
      have HU := Lib.hid (((Upd.refl (fun b => b = w.heap.size + 1) wr).setCell (a := ⟨w.heap.size + 1, 0, none⟩) (fun _ => rfl) (.int .i64 regs)).setCell (a := ⟨w.heap.size + 1, 1, none⟩) (fun _ => rfl) (.slice va n vc))
      have HV := Lib.hid (HP.out.vs.kept HU.out fun t ht => HP.out.vs.block_ne HP.out.res.kd (by decide) t ht)
      go_wp2_with fail
      have t0 : (wr.setCell ⟨w.heap.size + 1, 0, none⟩ (.int .i64 regs)).cell? ⟨w.heap.size + 1, 0, none⟩ = some (.int .i64 regs) := cell_set_same r0 _
      have t1 : ((wr.setCell ⟨w.heap.size + 1, 0, none⟩ (.int .i64 regs)).setCell ⟨w.heap.size + 1, 1, none⟩ (.slice va n vc)).cell? ⟨w.heap.size + 1, 1, none⟩ = some (.slice va n vc) := cell_set_same (by rw [cell_set_off (by omega)]; exact r1) _
      clear p0 p1 q1 g1 r0 r1 r2 r3 o0
      exact bodyPost_ret (v := .agg #[I regs, .slice va n vc]) (by simp [results, Tryd.results18, go_sem, t0, t1]) rfl ⟨_, rfl, Below.upd HB.out HU.out (fun b e => by omega) HB.out.size, HV.out⟩
end Go.Proofs.YthaamnjpjkkolabDoor

/- How long the shards are that a program loads: plain. -/
namespace Go.Proofs.YthaamnjpjkkolabDoor
open Go.RowKit Go.Proofs
set_option maxRecDepth 100000
set_option linter.unusedVariables false

/-- The length of the first shard that is loaded within k steps; -1: none is. -/
def firstN (S : Nat → Stp) (hs : Nat → Nat) : Nat → Int
  | 0 => -1
  | k + 1 => if (S k).k.toNat = 0 ∧ firstN S hs k < 0 then (hs (S k).b.toNat : Int) else firstN S hs k
theorem firstN_ge (S : Nat → Stp) (hs : Nat → Nat) : ∀ k, -1 ≤ firstN S hs k
  | 0 => by simp [firstN]
  | k + 1 => by unfold firstN; split; omega; exact firstN_ge S hs k
/-- All that are loaded within k steps are there, and of one length. -/
def LoadTo (S : Nat → Stp) (here : Nat → Prop) (hs : Nat → Nat) (k : Nat) : Prop :=
  ∀ i, i < k → (S i).k.toNat = 0 → here (S i).b.toNat ∧ (hs (S i).b.toNat : Int) = firstN S hs (i + 1) ∧ firstN S hs (i + 1) ≤ 4096
theorem LoadTo.next {S : Nat → Stp} {here : Nat → Prop} {hs : Nat → Nat} {k : Nat} (h : LoadTo S here hs k) (h' : (S k).k.toNat = 0 → here (S k).b.toNat ∧ (hs (S k).b.toNat : Int) = firstN S hs (k + 1) ∧ firstN S hs (k + 1) ≤ 4096) : LoadTo S here hs (k + 1) := fun i hi => by
  by_cases e : i = k
  · subst e; exact h'
  · exact h i (by omega)
theorem LoadTo.le {S : Nat → Stp} {here : Nat → Prop} {hs : Nat → Nat} {k n : Nat} (h : LoadTo S here hs n) (hk : k ≤ n) : LoadTo S here hs k := fun i hi => h i (by omega)

theorem firstN_max {S : Nat → Stp} {here : Nat → Prop} {hs : Nat → Nat} : ∀ {k : Nat}, LoadTo S here hs k → firstN S hs k ≤ 4096
  | 0, _ => by simp [firstN]
  | k + 1, h => by
    by_cases e : (S k).k.toNat = 0
    · exact (h k (by omega) e).2.2
    · unfold firstN; rw [if_neg (by omega)]; exact firstN_max (h.le (by omega))
/-- Once known, the length stays. -/
theorem firstN_stays {S : Nat → Stp} {hs : Nat → Nat} {k : Nat} (h : 0 ≤ firstN S hs k) : ∀ {n : Nat}, k ≤ n → firstN S hs n = firstN S hs k
  | 0, hk => by rw [show k = 0 by omega]
  | n + 1, hk => by
    by_cases e : k = n + 1
    · rw [e]
    · have ih := firstN_stays h (n := n) (by omega)
      rw [firstN, if_neg (by omega), ih]
theorem load_len {S : Nat → Stp} {here : Nat → Prop} {hs : Nat → Nat} {n i : Nat} (h : LoadTo S here hs n) (hi : i < n) (hk : (S i).k.toNat = 0) : (hs (S i).b.toNat : Int) = max (firstN S hs n) 0 := by
  have h1 := (h i hi hk).2.1
  have h2 := firstN_stays (S := S) (hs := hs) (k := i + 1) (by omega) (show i + 1 ≤ n from hi)
  omega

/-- The lengths of shards that are not there play no part. -/
theorem load_same {S : Nat → Stp} {here : Nat → Prop} {hs hs' : Nat → Nat} (he : ∀ j, here j → hs j = hs' j) : ∀ {k : Nat}, LoadTo S here hs k → LoadTo S here hs' k ∧ firstN S hs' k = firstN S hs k
  | 0, _ => ⟨fun i hi => absurd hi (by omega), rfl⟩
  | k + 1, h => by
    obtain ⟨h1, h2⟩ := load_same he (h.le (Nat.le_succ k))
    have e : firstN S hs' (k + 1) = firstN S hs (k + 1) := by
      unfold firstN
      rw [h2]
      by_cases c : (S k).k.toNat = 0 ∧ firstN S hs k < 0
      · rw [if_pos c, if_pos c, he _ (h k (by omega) c.1).1]
      · rw [if_neg c, if_neg c]
    refine ⟨h1.next fun hk => ?_, e⟩
    obtain ⟨a, b, c⟩ := h k (by omega) hk
    rw [e, ← he _ a]
    exact ⟨a, b, c⟩

def LengthIs (w : World) (n : Nat) (S : Nat → Stp) (here : Nat → Prop) (hs : Nat → Nat) (e : Ending) (w' : World) : Prop :=
  (LoadTo S here hs n ∧ e = .returned (.tuple #[I (max (firstN S hs n) 0), .nilIface]) ∨ ¬ LoadTo S here hs n ∧ e = .returned (.tuple #[I 0, .iface 33 (I 2)])) ∧ Below w.heap.size w w'

/-- A list of shards, some of which are not there. -/
structure Shs (w : World) (a : Option Addr) (b o m c : Nat) (T : Nat → Sl) : Prop where
  addr : 0 < m → a = some ⟨b, o, none⟩
  out : Rd w b o m (fun i => (T i).v)
  ok : ∀ i, i < m → (T i).a ≠ none → (T i).a = some ⟨(T i).b, (T i).o, none⟩ ∧ Rd w (T i).b (T i).o (T i).n (bs (T i).x)
  nil : ∀ i, i < m → (T i).n ≤ 100000
  cap : m ≤ c
  max : c ≤ 9223372036854775807
theorem Shs.later {w w' : World} {a : Option Addr} {b o m c : Nat} {T : Nat → Sl} (h : Shs w a b o m c T) (hb : Below w.heap.size w w') : Shs w' a b o m c T :=
  ⟨h.addr, h.out.later hb, fun i hi ha => ⟨(h.ok i hi ha).1, (h.ok i hi ha).2.later hb⟩, h.nil, h.cap, h.max⟩

def hereS (T : Nat → Sl) (j : Nat) : Prop := (T j).a ≠ none
def lenS (T : Nat → Sl) (j : Nat) : Nat := (T j).n

theorem inil (a : Option Addr) (n c : Nat) (w : World) : (binOp .eql 28 (.slice a n c) (.slice none 0 0)).run Tryd.prog w = .ok (.bool a.isNone) w :=
  Lib.run_eql_slice_nil w 28 5 a n c 0 0 Tryd.underlying28
end Go.Proofs.YthaamnjpjkkolabDoor

/- Own slices of elements of so many cells, told by the index. -/
namespace Go.Proofs.YthaamnjpjkkolabDoor
open Go.RowKit Go.Proofs
set_option maxRecDepth 100000
set_option linter.unusedVariables false

/-- An own slice of n elements of z cells. -/
def Vz (w : World) (base e z : Nat) (v : Value) (n : Nat) (f : Nat → Nat → Value) : Prop := w.ownsRow base e z v n ((List.range (n * z)).map (elz z f))

section
variable {w w' : World} {base e z n : Nat} {v : Value} {f g : Nat → Nat → Value}
theorem Vz.nil (w : World) (base e z : Nat) (f : Nat → Nat → Value) : Vz w base e z (.slice none 0 0) 0 f := by
  have := World.ownsRow_nil w base e z
  unfold Vz; rwa [Nat.zero_mul]
theorem Vz.lt (h : Vz w base e z v n f) : ∀ k, v.ownBlock = some k → base ≤ k ∧ k < w.heap.size := World.ownsRow.lt h
theorem Vz.congr (h : Vz w base e z v n f) (hfg : ∀ i, i < n → ∀ j, j < z → f i j = g i j) : Vz w base e z v n g := by
  unfold Vz at *
  rwa [show (List.range (n * z)).map (elz z g) = (List.range (n * z)).map (elz z f) from List.map_congr_left fun i hi => by
    have hi' : i < n * z := by simpa using hi
    have hz : 0 < z := by
      rcases Nat.eq_zero_or_pos z with h0 | h0
      · subst h0; simp at hi'
      · exact h0
    exact (hfg (i / z) (Nat.div_lt_of_lt_mul (by rwa [Nat.mul_comm])) (i % z) (Nat.mod_lt _ hz)).symm]
theorem Vz.kept {G : Nat → Prop} (h : Vz w base e z v n f) (hu : Upd G w w') (hne : ∀ k, v.ownBlock = some k → ¬ G k) : Vz w' base e z v n f := by
  refine ⟨h.1, ?_⟩
  rcases h.2 with hn | ⟨g, cap, cur, rfl, hb, hg, rest⟩
  · exact .inl hn
  · exact .inr ⟨g, cap, cur, rfl, hb, by rw [hu.block g (Array.getElem?_eq_some_iff.1 hg).1 (hne g rfl)]; exact hg, rest⟩
theorem Vz.alloc (h : Vz w base e z v n f) (o : Obj) : Vz (w.alloc o) base e z v n f := World.ownsRow.alloc h o
theorem Vz.later (h : Vz w base e z v n f) (hb : Below w.heap.size w w') : Vz w' base e z v n f := h.kept (Upd.of_below hb) (fun _ _ => id)
theorem Vz.drewN (h : Vz w base e z v n f) (k : Nat) : Vz (w.drewN k) base e z v n f := h
theorem Vz.block_ne {b t : Nat} (h : Vz w base e z v n f) (hk : Kd w b t) (ht : t ≠ e) : ∀ k, v.ownBlock = some k → k ≠ b := by
  intro k hv
  rcases h.2 with ⟨rfl, _⟩ | ⟨g, cap, cur, rfl, _, hg, _⟩
  · simp [Value.ownBlock] at hv
  · simp [Value.ownBlock] at hv
    subst hv
    exact (Kd.ne hk ⟨cur, hg⟩ ht).symm

/-- Elements of z cells that lie in memory. -/
structure Els (w : World) (a : Option Addr) (b o z n c : Nat) (f : Nat → Nat → Value) : Prop where
  addr : 0 < n → a = some ⟨b, o, none⟩
  rd : Rd w b o (n * z) (elz z f)
  cap : n ≤ c
  max : c ≤ 9223372036854775807
theorem Els.later {a : Option Addr} {b o c : Nat} (h : Els w a b o z n c f) (hb : Below w.heap.size w w') : Els w' a b o z n c f := ⟨h.addr, h.rd.later hb, h.cap, h.max⟩
theorem Els.upd {G : Nat → Prop} {a : Option Addr} {b o c : Nat} (h : Els w a b o z n c f) (hu : Upd G w w') (hg : 0 < n * z → ¬ G b) : Els w' a b o z n c f := ⟨h.addr, h.rd.upd hu hg, h.cap, h.max⟩
theorem Els.at {a : Option Addr} {b o c : Nat} (h : Els w a b o z n c f) {k j : Nat} (hk : k < n) (hj : j < z) : w.cell? ⟨b, o + (k * z + j), none⟩ = some (f k j) := by
  rw [h.rd (k * z + j) (mul_add_lt hk hj), elz_at _ _ _ hj]

/-- What such a slice is, as the walk sees it. -/
theorem Vz.shape (h : Vz w base e z v n f) : ∃ a b c, v = .slice a n c ∧ Els w a b 0 z n c f ∧ (∀ k, v.ownBlock = some k → k = b) ∧ (0 < n → base ≤ b) ∧ (v.ownBlock = none → v = .slice none 0 0) := by
  obtain ⟨hl, h⟩ := h
  rcases h with ⟨rfl, rfl⟩ | ⟨g, cap, cur, rfl, hb, hg, hn', hm, hs, ht⟩
  · exact ⟨none, 0, 0, rfl, ⟨fun h => absurd h (by omega), by rw [Nat.zero_mul]; exact Rd.empty _ _ _ _, Nat.le_refl _, by omega⟩, by simp [Value.ownBlock], fun h => absurd h (by omega), fun _ => rfl⟩
  · refine ⟨_, g, cap, rfl, ⟨fun _ => rfl, fun i hi => ?_, hn', by unfold maxLen at hm; omega⟩, by simp [Value.ownBlock], fun _ => hb, by simp [Value.ownBlock]⟩
    simp only [World.cell?, hg, Nat.zero_add]
    have : cur.toList[i]? = some (elz z f i) := by
      have e2 : (cur.toList.take (n * z))[i]? = ((List.range (n * z)).map (elz z f))[i]? := by rw [ht]
      rw [List.getElem?_take, if_pos (by omega)] at e2
      rw [e2]; simp [hi]
    simpa using this
end

section
variable {P : Program}
/-- 'append(s, x)', x of z cells: they lie in a block of their own. -/
theorem wpList_append_z {w : World} {ops : Array Oper} {rest : List Oper} {o : Oper} {a : Act} {Q : Exit → Act → World → Prop} (hgd : o.guard = none) (s x : Operand) (t : TypeId)
    (ho : o.op = .call { callee := .builtin .append, args := #[s, x], argTypes := #[t, t] })
    (base : Nat) (e : TypeId) (zr : Value) (z bytes : Nat) (ht : P.underlying t = some (.slice e)) (hinfo : (P.info? e).map (fun i => (i.zero, i.size, i.bytes)) = some (some zr, z, bytes)) (hz1 : zr.cells.size = z) (hz0 : 0 < z)
    (v : Value) (n : Nat) (f : Nat → Nat → Value) (hs : a.eval s = v) (hown : Vz w base e z v n f) (u : Array Value) (hu : u.size = z) (tu : TypeId) (hx : a.eval x = .slice (some ⟨w.heap.size, 0, none⟩) 1 1) (h1 : ∀ y ∈ u.toList, y.oneCell' = true)
    (h63 : n + 1 ≤ 1099511627776) (hby : bytes ≤ 64) (hbase : base ≤ w.heap.size)
    (h : ∀ v' w', Vz w' base e z v' (n + 1) (fun i j => if i < n then f i j else u.getD j (.bool false)) → Upd (fun b => some b = v.ownBlock) w w' → wpList P ops Q rest (a.put o.dst v') w') : wpList P ops Q (o :: rest) a (w.alloc (.cells u tu)) := by
  obtain ⟨i, hi, hz, hsz, hb⟩ := info_parts hinfo
  refine wpList_append_own _ hgd s x t ho base e i zr z bytes ht hi hz hsz hb hz1 hz0 v n _ hs (hown.alloc _) ⟨w.heap.size, 0, none⟩ 1 1 u.toList hx (by simpa using hu) ?_ h1 (by unfold maxLen; omega) ?_ (by rw [Deep.nblk_alloc]; omega) ?_
  · intro j y hj
    rw [addr_add, cell_new, Nat.zero_add]; simpa using hj
  · calc (n + 1) * bytes ≤ 1099511627776 * 64 := Nat.mul_le_mul h63 hby
      _ ≤ _ := by omega
  · intro v' w' hv hg _
    have hmap : (List.range ((n + 1) * z)).map (elz z fun i j => if i < n then f i j else u.getD j (.bool false)) = (List.range (n * z)).map (elz z f) ++ u.toList := by
      rw [show (n + 1) * z = n * z + z by rw [Nat.add_mul]; omega, List.range_add, List.map_append]
      congr 1
      · refine List.map_congr_left fun i hi => ?_
        have hi' : i < n * z := by simpa using hi
        show (if i / z < n then f (i / z) (i % z) else _) = f (i / z) (i % z)
        rw [if_pos (Nat.div_lt_of_lt_mul (by rwa [Nat.mul_comm]))]
      · refine List.ext_getElem? fun j => ?_
        by_cases hj : j < z
        · have h2 : j < u.size := by omega
          simp [hj, elz_at, h2]
        · simp [hj, show u.size ≤ j by omega]
    refine h v' w' (by unfold Vz; rw [hmap]; exact hv) ?_
    exact ((Upd.refl _ w).alloc _).trans (Upd.of_grown hg) fun b hb _ => hb
end
end Go.Proofs.YthaamnjpjkkolabDoor

/- Small laws on blocks of four cells, on own slices. -/
namespace Go.Proofs.YthaamnjpjkkolabDoor
open Go.RowKit Go.Proofs
set_option maxRecDepth 100000
set_option linter.unusedVariables false

/-- Four cells of a block of its own. -/
structure Four (w : World) (b : Nat) (x y z u : Value) : Prop where
  c0 : w.cell? ⟨b, 0, none⟩ = some x
  c1 : w.cell? ⟨b, 1, none⟩ = some y
  c2 : w.cell? ⟨b, 2, none⟩ = some z
  c3 : w.cell? ⟨b, 3, none⟩ = some u
theorem Row.new4 (w : World) (x y z u : Value) (t : TypeId) : Four (w.alloc (.cells #[x, y, z, u] t)) w.heap.size x y z u :=
  ⟨by rw [cell_new]; rfl, by rw [cell_new]; rfl, by rw [cell_new]; rfl, by rw [cell_new]; rfl⟩
theorem Four.later {w w' : World} {b : Nat} {x y z u : Value} (h : Four w b x y z u) (hb : Below w.heap.size w w') : Four w' b x y z u := by
  have hlt : b < w.heap.size := World.block_lt_of_cell? _ _ h.c0
  exact ⟨(hb.cell (p := ⟨b, 0, none⟩) hlt).trans h.c0, (hb.cell (p := ⟨b, 1, none⟩) hlt).trans h.c1, (hb.cell (p := ⟨b, 2, none⟩) hlt).trans h.c2, (hb.cell (p := ⟨b, 3, none⟩) hlt).trans h.c3⟩

theorem Vc.of_cells (w : World) (base t : Nat) (c : Array Value) (f : Nat → Value) (hb : base ≤ w.heap.size) (hm : c.size ≤ 1000000) (hf : ∀ i, i < c.size → c[i]? = some (f i)) :
    Vc (w.alloc (.cells c t)) base t (.slice (some ⟨w.heap.size, 0, none⟩) c.size c.size) c.size f := by
  refine ⟨by simp, .inr ⟨w.heap.size, c.size, c, rfl, hb, Deep.blk_alloc_new _ _, Nat.le_refl _, by unfold maxLen; omega, by simp, ?_⟩⟩
  refine List.ext_getElem? fun i => ?_
  by_cases hi : i < c.size
  · have := hf i hi
    simp [hi] at this ⊢
    exact this
  · simp [hi]
theorem Vc.base_le {w : World} {base base' e n : Nat} {v : Value} {f : Nat → Value} (h : Vc w base e v n f) (hb : base' ≤ base) : Vc w base' e v n f := by
  refine ⟨h.1, ?_⟩
  rcases h.2 with hn | ⟨g, cap, cur, rfl, hg, rest⟩
  · exact .inl hn
  · exact .inr ⟨g, cap, cur, rfl, Nat.le_trans hb hg, rest⟩

end Go.Proofs.YthaamnjpjkkolabDoor

/- The entry point Check. -/
namespace Go.Proofs.YthaamnjpjkkolabDoor
open Go.RowKit Go.Proofs
set_option maxRecDepth 100000
set_option linter.unusedVariables false

set_option maxHeartbeats 400000 in
theorem sCheck_all (a : Option Addr) (b o n c : Nat) (S : Nat → Stp) (regs shards : Int) (w : World) (h : Stps w a b o n c fun i => sc (S i)) :
    Calls Tryd.prog 40 #[.agg #[I regs, .slice a n c], I shards] w (CheckIs (OkP regs n S shards) w) := by
  have H := Lib.hid (fun w h => check_any a b o n c S regs shards w h)
  have HS := Lib.hid h
  clear h
  have HB := Lib.hid ((Below.refl w.heap.size w).alloc (Nat.le_refl _) (.cells #[I regs, .slice a n c] 39))
  go_enter Tryd.func40, Tryd.ntmps40
  go_wp2_with (go_at_call 52; refine (H.out _ (HS.out.later HB.out)).mono ?_; rintro e w1 ⟨h, hb⟩; have HB1 := Lib.hid (HB.out.trans (hb.mono HB.out.size)); have HH := Lib.hid h; clear hb h; rcases HH.out with ⟨h1, rfl⟩ | ⟨h1, rfl⟩)
  · go_ret
    exact ⟨.inl ⟨h1, rfl⟩, HB1.out⟩
  · go_ret
    exact ⟨.inr ⟨h1, rfl⟩, HB1.out⟩
end Go.Proofs.YthaamnjpjkkolabDoor
