import Derived.Test.YthaamnjpjkkolabDoorSln
import Derived.Test.YthaamnjpjkkolabDoorMaEnc
import Derived.Test.YthaamnjpjkkolabDoorMaStep
/- The law Compiles: the data shards that it makes. -/
namespace Go.Proofs.YthaamnjpjkkolabDoor
open Go.RowKit Go.Proofs
set_option maxRecDepth 100000
set_option linter.unusedVariables false

theorem infoBo : (Tryd.prog.info? 4).map (fun i => (i.zero, i.size, i.bytes)) = some (some (.bool false), 1, 1) := by kernel_rfl
theorem u8_any {t : Int} (h0 : 0 ≤ t) (h1 : t < 256) : ∃ u : UInt8, t = (u.toNat : Int) := ⟨b8 t, (toNat_b8 h0 h1).symm⟩

theorem u8_mod (t : Int) : ∃ u : UInt8, t % 256 = (u.toNat : Int) := u8_any (Int.emod_nonneg t (by decide)) (Int.emod_lt_of_pos t (by decide))

/-- k rows of nine bytes that the law has made behind w, in a list of its own. -/
structure DRows (w wr : World) (v : Value) (k : Nat) (S : Nat → Sl) : Prop where
  below : Below w.heap.size w wr
  vc : Vc wr w.heap.size 28 v k (fun i => (S i).v)
  ok : ∀ i, i < k → (S i).okn wr
  n9 : ∀ i, i < k → (S i).n = 9
  kd : ∀ i, i < k → Kd wr (S i).b 5
theorem DRows.start (w : World) (S : Nat → Sl) : DRows w w (.slice none 0 0) 0 S :=
  ⟨Below.refl _ _, Vc.nil _ _ _ _, fun _ h => absurd h (by omega), fun _ h => absurd h (by omega), fun _ h => absurd h (by omega)⟩
theorem DRows.next {w wr wz w3 : World} {v v3 : Value} {k : Nat} {S : Nat → Sl} (h : DRows w wr v k S) (hb : Below wr.heap.size wr wz) (s : Sl) (hs : s.okn wz) (hn : s.n = 9) (hk : Kd wz s.b 5)
    (hv3 : Vc w3 w.heap.size 28 v3 (k + 1) (fun i => if i < k then (S i).v else s.v)) (hu : Upd (fun b => some b = v.ownBlock) wz w3) : DRows w w3 v3 (k + 1) (fun i => if i < k then S i else s) := by
  have hbz := h.below.trans (hb.mono h.below.size)
  have hne : ∀ b, Kd wz b 5 → ¬ some b = v.ownBlock := fun b hb' e => (h.vc.later hb).block_ne hb' (by decide) _ e.symm rfl
  refine ⟨Below.upd hbz hu (fun t ht => (h.vc.lt t ht.symm).1) hbz.size, hv3.congr fun i hi => ?_, fun i hi => ?_, fun i hi => ?_, fun i hi => ?_⟩
  · by_cases e : i < k
    · simp only [if_pos e]
    · simp only [if_neg e]
  · by_cases e : i < k
    · simp only [if_pos e]; exact ((h.ok i e).later hb).upd hu fun _ => hne _ ((h.kd i e).later hb)
    · simp only [if_neg e]; exact hs.upd hu fun _ => hne _ hk
  · by_cases e : i < k
    · simp only [if_pos e]; exact h.n9 i e
    · simp only [if_neg e]; exact hn
  · by_cases e : i < k
    · simp only [if_pos e]; exact ((h.kd i e).later hb).upd hu (hne _ ((h.kd i e).later hb))
    · simp only [if_neg e]; exact hk.upd hu (hne _ hk)

/-- An own row of nine bytes, as a row. -/
theorem row9 {w : World} {B : Nat} {v : Value} {x : Nat → UInt8} (h : Vc w B 5 v 9 (bs x)) : ∃ s : Sl, v = s.v ∧ s.n = 9 ∧ s.okn w ∧ Kd w s.b 5 := by
  obtain ⟨a, b, c, rfl, ha, hr, hc, hk, _⟩ := h.shape
  exact ⟨⟨a, b, 0, 9, c, x⟩, rfl, rfl, ⟨ha, hr.rd, hc, show (9 : Nat) ≤ 140737488355328 by omega⟩, (hk (by omega)).2⟩

/-- One byte more. -/
theorem vc_byte {w : World} {B n : Nat} {v : Value} {x : Nat → UInt8} {u : UInt8} (h : Vc w B 5 v (n + 1) (fun i => if i < n then bs x i else .int .u8 (u.toNat : Int))) : Vc w B 5 v (n + 1) (bs fun i => if i < n then x i else u) :=
  h.congr fun i hi => by
    by_cases e : i < n
    · simp only [bs, if_pos e]
    · simp only [bs, if_neg e]
theorem vc_three (w : World) (u0 u1 u2 : UInt8) : Vc (w.alloc (.cells #[B u0, B u1, B u2] 5)) w.heap.size 5 (.slice (some ⟨w.heap.size, 0, none⟩) 3 3) 3 (bs fun i => if i = 0 then u0 else if i = 1 then u1 else u2) :=
  Vc.of_cells w w.heap.size 5 #[B u0, B u1, B u2] _ (Nat.le_refl _) (by simp) fun i hi => by
    match i, (show i < 3 from hi) with
    | 0, _ => rfl
    | 1, _ => rfl
    | 2, _ => rfl

/-- Two own slices of different kinds share no block. -/
theorem vc_apart {w : World} {b1 b2 e1 e2 n1 n2 : Nat} {v1 v2 : Value} {f1 f2 : Nat → Value} (h1 : Vc w b1 e1 v1 n1 f1) (h2 : Vc w b2 e2 v2 n2 f2) (he : e2 ≠ e1) : ∀ t, v1.ownBlock = some t → ¬ some t = v2.ownBlock := by
  intro t ht e
  rcases h2.2 with ⟨rfl, _⟩ | ⟨g, cap, cur, rfl, _, hg, _⟩
  · simp [Value.ownBlock] at e
  · have hg' : t = g := by simpa [Value.ownBlock] using e
    exact h1.block_ne (b := g) ⟨cur, hg⟩ he t ht hg'

/-- The shards that go in: those that are lost are nil. -/
def inT (x : Nat) (γ : Nat → Nat) (M : Nat → Nat → UInt8) (i : Nat) : Sl := if x.testBit i then ⟨none, 0, 0, 0, 0, fun _ => 0⟩ else ⟨some ⟨γ i, 0, none⟩, γ i, 0, 9, 9, M i⟩
theorem inT_lost {x i : Nat} {γ : Nat → Nat} {M : Nat → Nat → UInt8} (h : x.testBit i = true) : inT x γ M i = ⟨none, 0, 0, 0, 0, fun _ => 0⟩ := by unfold inT; rw [if_pos h]
theorem inT_here {x i : Nat} {γ : Nat → Nat} {M : Nat → Nat → UInt8} (h : x.testBit i = false) : inT x γ M i = ⟨some ⟨γ i, 0, none⟩, γ i, 0, 9, 9, M i⟩ := by unfold inT; rw [if_neg (by simp [h])]
theorem inT_ok {w : World} {x i : Nat} {γ : Nat → Nat} {M : Nat → Nat → UInt8} (hr : Row w (γ i) 0 9 (bs (M i))) : (inT x γ M i).okn w := by
  cases h : x.testBit i with
  | true => rw [inT_lost h]; exact ⟨fun h => absurd h (by simp), Rd.empty _ _ _ _, Nat.le_refl _, by simp⟩
  | false => rw [inT_here h]; exact ⟨fun _ => rfl, hr.rd, Nat.le_refl _, show (9 : Nat) ≤ 140737488355328 by omega⟩
theorem inT_n {x i : Nat} {γ : Nat → Nat} {M : Nat → Nat → UInt8} : (inT x γ M i).n ≤ 100000 := by
  cases h : x.testBit i with
  | true => rw [inT_lost h]; simp
  | false => rw [inT_here h]; simp
theorem vc_bit {w : World} {B k x : Nat} {v : Value} {b : Bool} (h : Vc w B 4 v (k + 1) (fun i => if i < k then .bool (x.testBit i) else .bool b)) (hb : x.testBit k = b) : Vc w B 4 v (k + 1) (fun i => .bool (x.testBit i)) :=
  h.congr fun i hi => by
    by_cases e : i < k
    · rw [if_pos e]
    · obtain rfl : i = k := by omega
      rw [if_neg e, hb]
theorem vc_in {w : World} {B k : Nat} {v u : Value} {T : Nat → Sl} (h : Vc w B 28 v (k + 1) (fun i => if i < k then (T i).v else u)) (hu : (T k).v = u) : Vc w B 28 v (k + 1) (fun i => (T i).v) :=
  h.congr fun i hi => by
    by_cases e : i < k
    · rw [if_pos e]
    · obtain rfl : i = k := by omega
      rw [if_neg e, hu]
end Go.Proofs.YthaamnjpjkkolabDoor
