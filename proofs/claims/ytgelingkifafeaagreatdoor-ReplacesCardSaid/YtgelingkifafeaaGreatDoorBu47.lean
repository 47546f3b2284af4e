import Derived.Test.YtgelingkifafeaaGreatDoorBu11
/- The reference's Rank. -/
namespace Go.Proofs.YtgelingkifafeaaGreatDoor
open Go.RowKit Go.Proofs Lin
set_option maxRecDepth 100000
set_option linter.unusedVariables false

/-- What the reference's Rank answers. -/
def refRankV (n : Nat) (S : Nat → Sl) : Int := if n ≤ 64 ∧ wid S n ≤ 64 then ((refReduce n (fun i => padX (S i)) (wid S n)).2 : Int) else -1
theorem refRankV_rows {n : Nat} {S : Nat → Sl} (h : 64 < n) : refRankV n S = -1 := by unfold refRankV; rw [if_neg (by omega)]
theorem refRankV_wide {n k : Nat} {S : Nat → Sl} (hk : k < n) (h : 64 < (S k).n) : refRankV n S = -1 := by
  have := wid_le S hk
  unfold refRankV; rw [if_neg (by omega)]
theorem refRankV_ok {n : Nat} {S : Nat → Sl} (h : n ≤ 64) (h' : wid S n ≤ 64) : refRankV n S = ((refReduce n (fun i => padX (S i)) (wid S n)).2 : Int) := by unfold refRankV; rw [if_pos ⟨h, h'⟩]

/-- The two ways come to the same. -/
theorem refRank_eq (n : Nat) (S : Nat → Sl) : refRankV n S = rankV n S := by
  unfold refRankV rankV
  split
  · rw [refReduce_rank, reduce_rank]
  · rfl

/-- The rows that are made, k of them, filled up to W. -/
structure Pads (w : World) (B k W : Nat) (S : Nat → Sl) (β : Nat → Nat) : Prop where
  row : ∀ j, j < k → Row w (β j) 0 W (bs (padX (S j)))
  kd : ∀ j, j < k → Kd w (β j) 5
  own : ∀ j, j < k → B ≤ β j
  up : ∀ i j, i < j → j < k → β i < β j

theorem Pads.next {w w1 w2 : World} {B k W : Nat} {S : Nat → Sl} {β : Nat → Nat} {v : Value} (h : Pads w B k W S β) (hB : B ≤ w.heap.size) {ob : Obj}
    (hu1 : Upd (· = w.heap.size) (w.alloc ob) w1) (hr : Row w1 w.heap.size 0 W (bs (padX (S k)))) (hk : Kd w1 w.heap.size 5)
    (hu : Upd (fun b => some b = v.ownBlock) w1 w2) (hv : ∀ t, v.ownBlock = some t → ∀ b, Kd w1 b 5 → t ≠ b) :
    Pads w2 B (k + 1) W S (fun j => if j < k then β j else w.heap.size) := by
  have key : ∀ j, j < k → β j < w.heap.size := fun j e => (h.kd j e).lt
  refine ⟨fun j hj => ?_, fun j hj => ?_, fun j hj => ?_, fun i j hij hj => ?_⟩
  · by_cases e : j < k
    · simp only [if_pos e]
      have h1 := ((h.row j e).alloc ob).upd hu1 fun _ e' => by have := key j e; omega
      have h2 := ((h.kd j e).alloc ob).upd hu1 fun e' => by have := key j e; omega
      exact h1.upd hu fun _ hg => hv _ hg.symm _ h2 rfl
    · obtain rfl : j = k := by omega
      simp only [if_neg e]
      exact hr.upd hu fun _ hg => hv _ hg.symm _ hk rfl
  · by_cases e : j < k
    · simp only [if_pos e]
      have h2 := ((h.kd j e).alloc ob).upd hu1 fun e' => by have := key j e; omega
      exact h2.upd hu fun hg => hv _ hg.symm _ h2 rfl
    · simp only [if_neg e]
      exact hk.upd hu fun hg => hv _ hg.symm _ hk rfl
  · by_cases e : j < k
    · simp only [if_pos e]; exact h.own j e
    · simp only [if_neg e]; exact hB
  · by_cases e : j < k
    · simp only [if_pos e, if_pos (show i < k by omega)]; exact h.up i j hij e
    · simp only [if_neg e, if_pos (show i < k by omega)]; exact key i (by omega)

/-- An own matrix, while the call goes on. -/
structure OwnMx (w wr : World) (g n W : Nat) (β : Nat → Nat) (M : Mat) : Prop where
  below : Below w.heap.size w wr
  mx : Mx wr g n W β M
  gOwn : w.heap.size ≤ g
  own : ∀ i, i < n → w.heap.size ≤ β i

namespace OwnMx
variable {w wr w' : World} {g n W : Nat} {β : Nat → Nat} {M N : Mat}
theorem congr (h : OwnMx w wr g n W β M) (e : ∀ i, i < n → ∀ j, j < W → M i j = N i j) : OwnMx w wr g n W β N := ⟨h.below, h.mx.congr e, h.gOwn, h.own⟩
theorem drewN (h : OwnMx w wr g n W β M) (q : Nat) : OwnMx w (wr.drewN q) g n W β M := ⟨⟨h.below.os, h.below.tape, h.below.output, h.below.size, h.below.block⟩, h.mx.drewN q, h.gOwn, h.own⟩
theorem swapped {i p : Nat} (h : OwnMx w wr g n W β M) (hi : i < n) (hp : p < n) :
    OwnMx w ((wr.setCell ⟨g, i, none⟩ (.slice (some ⟨β p, 0, none⟩) W W)).setCell ⟨g, p, none⟩ (.slice (some ⟨β i, 0, none⟩) W W)) g n W (swapB β i p) (swap M i p) :=
  ⟨(h.below.setCell (p := ⟨g, i, none⟩) h.gOwn _).setCell (p := ⟨g, p, none⟩) h.gOwn _, h.mx.swapped hi hp, h.gOwn, fun _ hj => h.own _ (swp_lt hi hp hj)⟩
/-- One byte of row r is turned. -/
theorem set {r x : Nat} (h : OwnMx w wr g n W β M) (hr : r < n) (hx : x < W) {v : Int} (u : UInt8) (hv : v = (u.toNat : Int)) :
    OwnMx w (wr.setCell ⟨β r, x, none⟩ (.int .u8 v)) g n W β (fun i => if i = r then (fun j => if j = x then u else M r j) else M i) := by
  refine ⟨h.below.setCell (p := ⟨β r, x, none⟩) (h.own r hr) _, ⟨?_, fun i hi => ?_, fun i hi => (h.mx.kd i hi).set _ _, h.mx.inj, h.mx.gk.set _ _⟩, h.gOwn, h.own⟩
  · exact h.mx.outer.other (a := ⟨β r, x, none⟩) (h.mx.ne hr) _
  · by_cases e : i = r
    · subst e; simp only [if_true]; exact Row.set8 (h.mx.rows i hi) hx u hv
    · simp only [if_neg e]
      exact (h.mx.rows i hi).other (a := ⟨β r, x, none⟩) (fun e' => e (h.mx.inj i r hi hr e'.symm)) _
end OwnMx

theorem lastFrom_next {q : Nat → Bool} {p x : Nat} (h : p ≤ x) : lastFrom q p (x + 1 - p) = if q x then some x else lastFrom q p (x - p) := by
  rw [show x + 1 - p = (x - p) + 1 by omega]
  simp only [lastFrom]
  rw [show p + (x - p) = x by omega]
theorem swapB_p (β : Nat → Nat) (y p : Nat) : swapB β y p p = β y := by
  unfold swapB swp; split
  · rename_i e; rw [e]
  · rw [if_pos rfl]
theorem lastFrom_zero (q : Nat → Bool) (p : Nat) : lastFrom q p 0 = none := rfl
/-- 'at', as an int. -/
def atV : Option Nat → Int
  | none => -1
  | some x => x

/-- Row r, of which the places from c up to j have had f times row p added. -/
def part6 (M : Mat) (r p c j : Nat) (f : UInt8) : Mat := fun i => if i = r then (fun x => if c ≤ x ∧ x < j then M r x ^^^ Gf.mul f (M p x) else M r x) else M i

theorem part6_start (M : Mat) (r p c : Nat) (f : UInt8) : part6 M r p c c f = M := by
  funext i x; unfold part6
  by_cases e : i = r
  · rw [if_pos e, if_neg (by omega), e]
  · rw [if_neg e]
theorem part6_next (M : Mat) {r p c j : Nat} (f : UInt8) (hcj : c ≤ j) : (fun i => if i = r then (fun x => if x = j then M r j ^^^ Gf.mul f (M p j) else part6 M r p c j f r x) else part6 M r p c j f i) = part6 M r p c (j + 1) f := by
  funext i x; unfold part6
  by_cases e : i = r
  · simp only [if_pos e, if_true]
    by_cases e1 : x = j
    · subst e1; simp [hcj]
    · by_cases e2 : c ≤ x ∧ x < j
      · rw [if_neg e1, if_pos e2, if_pos ⟨e2.1, by omega⟩]
      · rw [if_neg e1, if_neg e2, if_neg (by omega)]
  · simp only [if_neg e]

/-- Behind row r: the whole of it. -/
theorem part6_done {M : Mat} {r p c W : Nat} {k : Nat → UInt8} (hpr : p < r) (hz : ∀ x, x < c → M p x = 0) : ∀ i x, x < W → part6 (below M r p k) r p c W (k r) i x = below M (r + 1) p k i x := by
  intro i x hx
  unfold part6 below
  by_cases e : i = r
  · subst e
    simp only [if_true, if_pos (show p < i ∧ i < i + 1 by omega), if_neg (show ¬ (p < i ∧ i < i) by omega), if_neg (show ¬ (p < p ∧ p < i) by omega)]
    by_cases h : c ≤ x
    · rw [if_pos ⟨h, hx⟩]
    · rw [if_neg (by omega), hz x (by omega), Gf.mul_zero]; simp
  · simp only [if_neg e]
    by_cases h : p < i ∧ i < r
    · rw [if_pos h, if_pos ⟨h.1, by omega⟩]
    · rw [if_neg h, if_neg (by omega)]
theorem part6_none {M : Mat} {r p : Nat} {k : Nat → UInt8} (hk : k r = 0) : below M (r + 1) p k = below M r p k := by
  funext i x; unfold below
  by_cases e : i = r
  · subst e
    by_cases h : p < i
    · rw [if_pos ⟨h, by omega⟩, if_neg (by omega), hk, Gf.zero_mul]; simp
    · rw [if_neg (by omega), if_neg (by omega)]
  · by_cases h : p < i ∧ i < r
    · rw [if_pos h, if_pos ⟨h.1, by omega⟩]
    · rw [if_neg h, if_neg (by omega)]
theorem part6_p (M : Mat) {r p c j : Nat} (f : UInt8) (h : p ≠ r) : part6 M r p c j f p = M p := by unfold part6; rw [if_neg h]
theorem part6_r (M : Mat) {r p c j : Nat} (f : UInt8) : part6 M r p c j f r j = M r j := by unfold part6; rw [if_pos rfl, if_neg (by omega)]
theorem below_start (M : Mat) (p : Nat) (k : Nat → UInt8) : below M (p + 1) p k = M := by
  funext i x; unfold below; rw [if_neg (by omega)]
theorem below_at (M : Mat) (p r : Nat) (k : Nat → UInt8) : below M r p k r = M r := by unfold below; rw [if_neg (by omega)]
theorem below_p (M : Mat) (p r : Nat) (k : Nat → UInt8) : below M r p k p = M p := by unfold below; rw [if_neg (by omega)]

theorem refStep_none {n c : Nat} {R : Mat} {p : Nat} (h : lastFrom (fun i => R i c != 0) p (n - p) = none) : refStep n c (R, p) = (R, p) := by
  unfold refStep; simp only [h]
theorem refStep_some {n c x : Nat} {R : Mat} {p : Nat} (h : lastFrom (fun i => R i c != 0) p (n - p) = some x) :
    refStep n c (R, p) = (below (swap R x p) n p (fun r => Gf.mul (swap R x p r c) (Gf.inv (R x c))), p + 1) := by
  unfold refStep; simp only [h, swap_p]

end Go.Proofs.YtgelingkifafeaaGreatDoor
