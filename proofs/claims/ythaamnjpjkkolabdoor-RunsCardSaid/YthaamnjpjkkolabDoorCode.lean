import Derived.Test.YthaamnjpjkkolabDoorMat
/- Codes: params, the matrix of a code; matrices that grow row by row. -/
namespace Go.Proofs.YthaamnjpjkkolabDoor
open Go.RowKit Go.Proofs Lin
set_option maxRecDepth 100000
set_option linter.unusedVariables false

/-- Params, as a value. -/
abbrev PV (D L G : Int) : Value := .agg #[I D, I L, I G]

/-- Params that are right. -/
structure Right (D L G : Nat) : Prop where
  d1 : 1 ≤ D
  d2 : D ≤ 12
  l1 : 1 ≤ L
  l2 : L ≤ 4
  g2 : G ≤ 4
  div : D % L = 0
  sum : D + L + G ≤ 16

def RightI (D L G : Int) : Prop := ∃ d l g : Nat, D = d ∧ L = l ∧ G = g ∧ Right d l g

/-- The matrix of a code. -/
def codeM (D L : Nat) : Mat := fun i j =>
  if i < D then (if i = j then 1 else 0) else if i < D + L then (if D + j / (D / L) = i then 1 else 0) else Gf.inv (UInt8.ofNat ((i - L) ^^^ j))

/-- A matrix that grows row by row: k rows of W bytes are there. -/
structure Gm (w wr : World) (v : Value) (k W : Nat) (M : Mat) (β : Nat → Nat) : Prop where
  below : Below w.heap.size w wr
  vc : Vc wr w.heap.size 28 v k (fun j => .slice (some ⟨β j, 0, none⟩) W W)
  row : ∀ j, j < k → Row wr (β j) 0 W (bs (M j))
  kd : ∀ j, j < k → Kd wr (β j) 5
  own : ∀ j, j < k → w.heap.size ≤ β j
  up : ∀ i j, i < j → j < k → β i < β j

namespace Gm
variable {w wr w1 w3 : World} {v v3 : Value} {k W : Nat} {M N : Mat} {β : Nat → Nat}
theorem start (h : Below w.heap.size w wr) : Gm w wr (.slice none 0 0) 0 W M β :=
  ⟨h, Vc.nil _ _ _ _, fun j hj => absurd hj (by omega), fun j hj => absurd hj (by omega), fun j hj => absurd hj (by omega), fun i j _ hj => absurd hj (by omega)⟩
theorem congr (h : Gm w wr v k W M β) (e : ∀ i, i < k → ∀ j, j < W → M i j = N i j) : Gm w wr v k W N β :=
  ⟨h.below, h.vc, fun j hj => (h.row j hj).congr fun x hx => by simp [bs, e j hj x hx], h.kd, h.own, h.up⟩
theorem kept {G : Nat → Prop} (h : Gm w wr v k W M β) (hu : Upd G wr w1) (hb : ∀ b, G b → w.heap.size ≤ b) (hg : ∀ b, G b → b < wr.heap.size → ∃ t, Kd wr b t ∧ t ≠ 5 ∧ t ≠ 28) : Gm w w1 v k W M β := by
  have key : ∀ j, j < k → ¬ G (β j) := fun j hj hG => by
    obtain ⟨t, ht, h1, _⟩ := hg _ hG (h.kd j hj).lt
    exact (h.kd j hj).ne ht (fun e => h1 e.symm) rfl
  refine ⟨Below.upd h.below hu hb h.below.size, h.vc.kept hu fun t ht hG => ?_, fun j hj => (h.row j hj).upd hu fun _ => key j hj, fun j hj => (h.kd j hj).upd hu (key j hj), h.own, h.up⟩
  obtain ⟨t', ht', _, h2⟩ := hg _ hG (h.vc.lt t ht).2
  exact h.vc.block_ne ht' h2 t ht rfl
theorem later (h : Gm w wr v k W M β) (hb : Below wr.heap.size wr w1) : Gm w w1 v k W M β := h.kept (Upd.of_below hb) (fun _ e => e.elim) (fun _ e => e.elim)
theorem next (h : Gm w wr v k W M β) {ob : Obj} (hu1 : Upd (· = wr.heap.size) (wr.alloc ob) w1) (hr : Row w1 wr.heap.size 0 W (bs (M k))) (hk : Kd w1 wr.heap.size 5)
    (hv : Vc w3 w.heap.size 28 v3 (k + 1) (fun i => if i < k then .slice (some ⟨β i, 0, none⟩) W W else .slice (some ⟨wr.heap.size, 0, none⟩) W W)) (hu : Upd (fun b => some b = v.ownBlock) w1 w3) :
    Gm w w3 v3 (k + 1) W M (fun j => if j < k then β j else wr.heap.size) := by
  have hB := h.below.size
  have key : ∀ j, j < k → β j < wr.heap.size := fun j e => (h.kd j e).lt
  have hv1 := (h.vc.alloc ob).kept hu1 fun t ht e => by have := (h.vc.lt t ht).2; omega
  have hne : ∀ b, Kd w1 b 5 → ¬ some b = v.ownBlock := fun b hb e => hv1.block_ne hb (by decide) b e.symm rfl
  refine ⟨?_, hv.congr fun i hi => ?_, fun j hj => ?_, fun j hj => ?_, fun j hj => ?_, fun i j hij hj => ?_⟩
  · exact Below.upd (Below.upd (h.below.alloc hB _) hu1 (fun b e => by omega) (by rw [Deep.nblk_alloc]; omega)) hu (fun t ht => (h.vc.lt t ht.symm).1) (Nat.le_trans (by rw [Deep.nblk_alloc]; omega) hu1.size)
  · by_cases e : i < k
    · simp [e]
    · simp [e]
  · by_cases e : j < k
    · simp only [if_pos e]
      have h1 := ((h.row j e).alloc ob).upd hu1 fun _ e' => by have := key j e; omega
      have h2 := ((h.kd j e).alloc ob).upd hu1 fun e' => by have := key j e; omega
      exact h1.upd hu fun _ => hne _ h2
    · obtain rfl : j = k := by omega
      simp only [if_neg e]
      exact hr.upd hu fun _ => hne _ hk
  · by_cases e : j < k
    · simp only [if_pos e]
      have h2 := ((h.kd j e).alloc ob).upd hu1 fun e' => by have := key j e; omega
      exact h2.upd hu (hne _ h2)
    · simp only [if_neg e]
      exact hk.upd hu (hne _ hk)
  · by_cases e : j < k
    · simp only [if_pos e]; exact h.own j e
    · simp only [if_neg e]; exact hB
  · by_cases e : j < k
    · simp only [if_pos e, if_pos (show i < k by omega)]; exact h.up i j hij e
    · simp only [if_neg e, if_pos (show i < k by omega)]; exact key i (by omega)
/-- Row i, as a row of a list. -/
def sl (W : Nat) (M : Mat) (β : Nat → Nat) (i : Nat) : Sl := ⟨some ⟨β i, 0, none⟩, β i, 0, W, W, M i⟩
theorem ok (h : Gm w wr v k W M β) (hW : W ≤ 100000) {i : Nat} (hi : i < k) : (sl W M β i).ok wr :=
  ⟨fun _ => rfl, (h.row i hi).rd, Nat.le_refl _, by show W ≤ _; omega⟩
end Gm

theorem tmod_nat (a b : Nat) : ((a : Int).tmod (b : Int)) = ((a % b : Nat) : Int) := by
  rw [Int.tmod_eq_emod_of_nonneg (by omega)]; rfl
theorem tdiv_nat (a b : Nat) : ((a : Int).tdiv (b : Int)) = ((a / b : Nat) : Int) := by
  rw [Int.tdiv_eq_ediv_of_nonneg (by omega)]; rfl

set_option maxHeartbeats 400000 in
theorem shards_any (D L G : Int) (h : 0 ≤ D ∧ D ≤ 1000 ∧ 0 ≤ L ∧ L ≤ 1000 ∧ 0 ≤ G ∧ G ≤ 1000) (w : World) :
    Calls Tryd.prog 44 #[PV D L G] w fun e w' => e = .returned (I (D + L + G)) ∧ Below w.heap.size w w' := by
  obtain ⟨h1, h2, h3, h4, h5, h6⟩ := h
  go_enter Tryd.func44, Tryd.ntmps44
  go_wp2_with fail
  go_ret
  exact ⟨rfl, (Below.refl _ _).alloc (Nat.le_refl _) _⟩

theorem rightI_of {D L G : Int} (h1 : ¬ D < 1) (h2 : ¬ 12 < D) (h3 : ¬ L < 1) (h4 : ¬ 4 < L) (h5 : ¬ G < 0) (h6 : ¬ 4 < G) (h7 : D % L = 0) (h8 : D + L + G ≤ 16) : RightI D L G := by
  obtain ⟨d, rfl⟩ := Int.eq_ofNat_of_zero_le (a := D) (by omega)
  obtain ⟨l, rfl⟩ := Int.eq_ofNat_of_zero_le (a := L) (by omega)
  obtain ⟨g, rfl⟩ := Int.eq_ofNat_of_zero_le (a := G) (by omega)
  exact ⟨d, l, g, rfl, rfl, rfl, ⟨by omega, by omega, by omega, by omega, by omega, by omega, by omega⟩⟩

open Classical in
set_option maxHeartbeats 1000000 in
theorem right_any (D L G : Int) (w : World) :
    Calls Tryd.prog 9 #[PV D L G] w fun e w' => e = .returned (.bool (decide (RightI D L G))) ∧ Below w.heap.size w w' := by
  have no : (D < 1 ∨ 12 < D ∨ L < 1 ∨ 4 < L ∨ G < 0 ∨ 4 < G ∨ D % L ≠ 0 ∨ 16 < D + L + G) → decide (RightI D L G) = false := by
    intro h
    rw [decide_eq_false_iff_not]
    rintro ⟨d, l, g, rfl, rfl, rfl, hr⟩
    have := hr.d1; have := hr.d2; have := hr.l1; have := hr.l2; have := hr.g2; have := hr.div; have := hr.sum
    omega
  by_cases h1 : D < 1
  · have HN := Lib.hid (no (by omega)); clear no
    go_enter Tryd.func9, Tryd.ntmps9
    go_wp2_with fail
    go_ret
    exact ⟨by rw [HN.out]; rfl, (Below.refl _ _).alloc (Nat.le_refl _) _⟩
  by_cases h2 : 12 < D
  · have HN := Lib.hid (no (by omega)); clear no
    go_enter Tryd.func9, Tryd.ntmps9
    go_wp2_with fail
    go_ret
    exact ⟨by rw [HN.out]; rfl, (Below.refl _ _).alloc (Nat.le_refl _) _⟩
  by_cases h3 : L < 1
  · have HN := Lib.hid (no (by omega)); clear no
    go_enter Tryd.func9, Tryd.ntmps9
    go_wp2_with fail
    go_ret
    exact ⟨by rw [HN.out]; rfl, (Below.refl _ _).alloc (Nat.le_refl _) _⟩
  by_cases h4 : 4 < L
  · have HN := Lib.hid (no (by omega)); clear no
    go_enter Tryd.func9, Tryd.ntmps9
    go_wp2_with fail
    go_ret
    exact ⟨by rw [HN.out]; rfl, (Below.refl _ _).alloc (Nat.le_refl _) _⟩
  by_cases h5 : G < 0
  · have HN := Lib.hid (no (by omega)); clear no
    go_enter Tryd.func9, Tryd.ntmps9
    go_wp2_with fail
    go_ret
    exact ⟨by rw [HN.out]; rfl, (Below.refl _ _).alloc (Nat.le_refl _) _⟩
  by_cases h6 : 4 < G
  · have HN := Lib.hid (no (by omega)); clear no
    go_enter Tryd.func9, Tryd.ntmps9
    go_wp2_with fail
    go_ret
    exact ⟨by rw [HN.out]; rfl, (Below.refl _ _).alloc (Nat.le_refl _) _⟩
  have hL0 : L ≠ 0 := by omega
  by_cases h7 : D % L = 0
  · by_cases h8 : D + L + G ≤ 16
    · have HY := Lib.hid (show decide (RightI D L G) = true from decide_eq_true (rightI_of h1 h2 h3 h4 h5 h6 h7 h8)); clear no
      go_enter Tryd.func9, Tryd.ntmps9
      go_wp2_with fail
      go_ret
      refine ⟨by rw [HY.out]; simp, (Below.refl _ _).alloc (Nat.le_refl _) _⟩
    · have HN := Lib.hid (no (by omega)); clear no
      go_enter Tryd.func9, Tryd.ntmps9
      go_wp2_with fail
      go_ret
      refine ⟨by rw [HN.out]; simp, (Below.refl _ _).alloc (Nat.le_refl _) _⟩
  · have HN := Lib.hid (no (by omega)); clear no
    go_enter Tryd.func9, Tryd.ntmps9
    go_wp2_with fail
    go_ret
    refine ⟨by rw [HN.out]; rfl, (Below.refl _ _).alloc (Nat.le_refl _) _⟩
set_option maxHeartbeats 400000 in
theorem theirs_any (D L G : Int) (w : World) :
    Calls Tryd.prog 8 #[PV D L G] w fun e w' => e = .returned (PV D L G) ∧ Below w.heap.size w w' := by
  go_enter Tryd.func8, Tryd.ntmps8
  go_wp2_with fail
  go_returns
  exact ⟨rfl, ((Below.refl _ _).alloc (Nat.le_refl _) _).alloc (by simp) _⟩
def pcI (D L G : Int) : Nat → Value := fun i => if i = 0 then I D else if i = 1 then I L else I G
theorem pcI_new (w : World) (D L G : Int) (t : TypeId) : Rd (w.alloc (.cells #[I D, I L, I G] t)) w.heap.size 0 3 (pcI D L G) := by
  intro i hi
  simp only [World.cell?, Nat.zero_add, Deep.blk_alloc_new]
  rcases (show i = 0 ∨ i = 1 ∨ i = 2 by omega) with rfl | rfl | rfl <;> simp [pcI]

end Go.Proofs.YthaamnjpjkkolabDoor
