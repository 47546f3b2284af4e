import Derived.Test.YthaamnjpjkkolabDoorMaHeap
import Derived.Test.YthaamnjpjkkolabDoorField
import Derived.Test.YthaamnjpjkkolabDoorMaPlain
/- Matrices of bytes: Clone, Scale, AddTo, By. -/
namespace Go.Proofs.YthaamnjpjkkolabDoor
open Go.RowKit Go.Proofs
set_option maxRecDepth 100000
set_option linter.unusedVariables false

/-- make(Matrix, n) -/
theorem make_rows (n : Int) (h0 : 0 ≤ n) (h1 : n ≤ 1000000) (w : World) :
    (Instr.makeSlice 97 (.int .i64 n) (.int .i64 n)).run Tryd.prog w = .ok (.slice (some ⟨w.heap.size, 0, none⟩) n.toNat n.toNat) (w.alloc (.cells (madeCells #[.slice none 0 0] n.toNat) 28)) := by
  have := run_make_row' (P := Tryd.prog) 97 28 (.slice none 0 0) 24 Tryd.underlying97 infoBs rfl .i64 .i64 n.toNat (by omega) (by omega) w
  rwa [Int.toNat_of_nonneg h0] at this

/-- A matrix of n rows of W bytes: its outer row is block g, row i is block β i. -/
structure Mx (w : World) (g n W : Nat) (β : Nat → Nat) (M : Nat → Nat → UInt8) : Prop where
  outer : Row w g 0 n (fun i => .slice (some ⟨β i, 0, none⟩) W W)
  rows : ∀ i, i < n → Row w (β i) 0 W (bs (M i))
  kd : ∀ i, i < n → Kd w (β i) 5
  inj : ∀ i j, i < n → j < n → β i = β j → i = j
  gk : Kd w g 28

theorem Mx.ne {w : World} {g n W : Nat} {β : Nat → Nat} {M : Nat → Nat → UInt8} (h : Mx w g n W β M) {i : Nat} (hi : i < n) : β i ≠ g := (h.kd i hi).ne h.gk (by decide)

/-- A row, filled up with noughts. -/
def padX (s : Sl) : Nat → UInt8 := fun j => if j < s.n then s.x j else 0

/-! ### Scale, AddTo -/

/-- What a loop over a row's bytes has made of the row: the first k are done. -/
structure Doing (w wr : World) (g n k : Nat) (x y : Nat → UInt8) : Prop where
  upd : Upd (· = g) w wr
  kd : KdKept w wr
  size : wr.heap.size = w.heap.size
  row : Row wr g 0 n (bs (fun j => if j < k then y j else x j))

theorem Doing.start {w : World} {g n : Nat} {x y : Nat → UInt8} (h : Row w g 0 n (bs x)) : Doing w w g n 0 x y :=
  ⟨Upd.refl _ _, KdKept.refl _, rfl, h.congr fun j _ => by simp⟩
theorem Doing.drewN {w wr : World} {g n k : Nat} {x y : Nat → UInt8} (h : Doing w wr g n k x y) (q : Nat) : Doing w (wr.drewN q) g n k x y :=
  ⟨h.upd.drewN q, h.kd.drewN q, h.size, h.row.drewN q⟩
theorem Doing.next {w wr : World} {g n k : Nat} {x y : Nat → UInt8} (h : Doing w wr g n k x y) (hk : k < n) {v : Int} (hv : v = ((y k).toNat : Int)) :
    Doing w (wr.setCell ⟨g, k, none⟩ (.int .u8 v)) g n (k + 1) x y := by
  refine ⟨h.upd.setCell (fun _ => rfl) _, h.kd.set _ _, by rw [Deep.nblk_setCell]; exact h.size, (Row.set8 h.row hk (y k) hv).congr fun j _ => ?_⟩
  by_cases e : j = k
  · subst e; simp [bs]
  · by_cases e2 : j < k
    · simp [bs, e, e2, show j < k + 1 by omega]
    · simp [bs, e, e2, show ¬ j < k + 1 by omega]
/-- A byte that stays as it is. -/
theorem Doing.skip {w wr : World} {g n k : Nat} {x y : Nat → UInt8} (h : Doing w wr g n k x y) (e : k < n → y k = x k) : Doing w wr g n (k + 1) x y := by
  refine ⟨h.upd, h.kd, h.size, h.row.congr fun j hj => ?_⟩
  by_cases e1 : j = k
  · subst e1; simp [bs, e hj]
  · by_cases e2 : j < k
    · simp [bs, e2, show j < k + 1 by omega]
    · simp [bs, e2, show ¬ j < k + 1 by omega]
theorem Doing.cellAt {w wr : World} {g n k : Nat} {x y : Nat → UInt8} (h : Doing w wr g n k x y) (hk : k < n) : wr.cell? ⟨g, k, none⟩ = some (B (x k)) := by
  have := h.row.cell k hk; simpa [bs] using this
theorem Doing.freeAt {w wr : World} {g n k : Nat} {x y : Nat → UInt8} (h : Doing w wr g n k x y) (hk : k < n) : wr.frozen? ⟨g, k, none⟩ = false := by
  have := h.row.free k hk; simpa using this

/-- What such a call leaves. -/
structure Done (w w' : World) (g n : Nat) (y : Nat → UInt8) : Prop where
  upd : Upd (· = g) w w'
  kd : KdKept w w'
  size : w'.heap.size = w.heap.size
  row : Row w' g 0 n (bs y)
theorem Doing.done {w wr : World} {g n : Nat} {x y : Nat → UInt8} (h : Doing w wr g n n x y) : Done w wr g n y :=
  ⟨h.upd, h.kd, h.size, h.row.congr fun j hj => by simp [bs, hj]⟩

/-- AddTo, of rows that are not long. -/
theorem addTo_zero (v1 v2 : Value) (w : World) : Calls Tryd.prog 47 #[v1, v2, B 0] w fun e w' => e = .returned (.tuple #[]) ∧ w = w' := by
  go_enter Tryd.func47, Tryd.ntmps47
  go_wp2
  go_end0
  exact ⟨rfl, rfl⟩

set_option maxHeartbeats 400000 in
theorem addTo_one (a : Option Addr) (g n c b o m c' : Nat) (x y : Nat → UInt8) (w : World) (hx : Row w g 0 n (bs x)) (ha : 0 < m → a = some ⟨b, o, none⟩) (hy : Rd w b o m (bs y)) (hb : 0 < m → b ≠ g) (hm : m ≤ n) (hn : n ≤ 1000000) :
    Calls Tryd.prog 47 #[.slice (some ⟨g, 0, none⟩) n c, .slice a m c', B 1] w fun e w' => e = .returned (.tuple #[]) ∧ Done w w' g n (fun j => if j < m then x j ^^^ Gf.mul 1 (y j) else x j) := by
  have HX := Lib.hid hx
  have HY := Lib.hid hy
  clear hx hy
  go_enter Tryd.func47, Tryd.ntmps47
  go_wp2_with fail
  go_loopw [63] (fun i wr => ∃ k : Nat, k ≤ m ∧ i = I k ∧ Doing w wr g n k x (fun j => if j < m then x j ^^^ Gf.mul 1 (y j) else x j)) (fun i _ => m - (intOf i).toNat)
  case atStart => exact ⟨0, by omega, rfl, Doing.start HX.out⟩
  case round =>
    obtain ⟨k, hk, rfl, hd⟩ := hrel
    have HD := Lib.hid hd
    clear hd
    by_cases hlt : k < m
    · obtain rfl := ha (by omega)
      have c1 := HD.out.cellAt (show k < n by omega)
      have f1 := HD.out.freeAt (show k < n by omega)
      have c2 : wr.cell? ⟨b, o + k, none⟩ = some (B (y k)) := (HY.out.upd HD.out.upd hb) k hlt
      go_wp2
      go_roundw
      case rel => exact ⟨k + 1, by omega, by go_num, HD.out.next (by omega) (by rw [if_pos hlt, Gf.one_mul, xor8])⟩
      case measure => simp [intOf]; omega
    · go_wp2
      go_end0
      obtain rfl : k = m := by omega
      exact ⟨rfl, HD.out.upd, HD.out.kd, HD.out.size, HD.out.row.congr fun j _ => by by_cases e : j < k <;> simp [bs, e]⟩

theorem mul_still (x y : UInt8) (w : World) : Calls Tryd.prog 62 #[B x, B y] w fun e w' => e = .returned (B (Gf.mul x y)) ∧ w' = w :=
  (mul_any x y w).mono fun _ _ ⟨h1, h2⟩ => ⟨h1, h2.symm⟩

theorem byte_ne_lit {k : UInt8} {n : Nat} (h : k ≠ UInt8.ofNat n) (hn : n < 256) : ((k.toNat : Int) == (n : Int)) = false := by
  rw [beq_eq_false_iff_ne]
  intro e
  apply h
  apply UInt8.toNat.inj
  rw [UInt8.toNat_ofNat', Nat.mod_eq_of_lt (by omega)]
  omega

set_option maxHeartbeats 400000 in
theorem addTo_small (a : Option Addr) (g n c b o m c' : Nat) (x y : Nat → UInt8) (s : UInt8) (w : World) (hx : Row w g 0 n (bs x)) (ha : 0 < m → a = some ⟨b, o, none⟩) (hy : Rd w b o m (bs y)) (hb : 0 < m → b ≠ g) (hm : m ≤ n) (hn : n ≤ 1000000)
    (h0 : s ≠ 0) (h1 : s ≠ 1) (hs : m < 100) :
    Calls Tryd.prog 47 #[.slice (some ⟨g, 0, none⟩) n c, .slice a m c', B s] w fun e w' => e = .returned (.tuple #[]) ∧ Done w w' g n (fun j => if j < m then x j ^^^ Gf.mul s (y j) else x j) := by
  have HX := Lib.hid hx
  have HY := Lib.hid hy
  clear hx hy
  have e0 : ((s.toNat : Int) == 0) = false := byte_ne_lit (n := 0) h0 (by omega)
  have e1 : ((s.toNat : Int) == 1) = false := byte_ne_lit (n := 1) h1 (by omega)
  have hd : decide ((m : Int) < 100) = true := by simp; omega
  go_enter Tryd.func47, Tryd.ntmps47
  go_wp2_with fail
  go_loopw [19] (fun i wr => ∃ k : Nat, k ≤ m ∧ i = I k ∧ Doing w wr g n k x (fun j => if j < m then x j ^^^ Gf.mul s (y j) else x j)) (fun i _ => m - (intOf i).toNat)
  case atStart => exact ⟨0, by omega, rfl, Doing.start HX.out⟩
  case round =>
    obtain ⟨k, hk, rfl, hd⟩ := hrel
    have HD := Lib.hid hd
    clear hd
    by_cases hlt : k < m
    · obtain rfl := ha (by omega)
      have c1 := HD.out.cellAt (show k < n by omega)
      have f1 := HD.out.freeAt (show k < n by omega)
      have c2 : wr.cell? ⟨b, o + k, none⟩ = some (B (y k)) := (HY.out.upd HD.out.upd hb) k hlt
      by_cases hz : y k = 0
      · have ez : ((y k).toNat : Int) = 0 := by rw [hz]; rfl
        have HZ := Lib.hid hz
        clear hz
        go_wp2_with fail
        go_roundw
        case rel => exact ⟨k + 1, by omega, by go_num, HD.out.skip fun _ => by simp only [if_pos hlt]; rw [HZ.out, Gf.mul_zero]; simp⟩
        case measure => simp [intOf]; omega
      · have ez : ((y k).toNat : Int) ≠ 0 := fun e => hz (UInt8.toNat.inj (by simpa using e))
        clear hz
        have hkn : k < n := by omega
        go_wp2_with fail
        go_still_tail 9, mixed
        still_call (mul_still _ _ _)
        repeat still_step
        refine wpStill_nil ?_
        change wpList _ _ _ _ _ (wr.drewN 1)
        go_wp2
        go_roundw
        case rel => exact ⟨k + 1, by omega, by go_num, (HD.out.drewN 1).next (by omega) (by simp only [if_pos hlt]; exact xor8 _ _)⟩
        case measure => simp [intOf]; omega
    · go_wp2
      go_returns
      obtain rfl : k = m := by omega
      exact ⟨rfl, HD.out.upd, HD.out.kd, HD.out.size, HD.out.row.congr fun j _ => by by_cases e : j < k <;> simp [bs, e]⟩

/-- AddTo, of rows that are not long: whatever the number. -/
theorem addTo_short (a : Option Addr) (g n c b o m c' : Nat) (x y : Nat → UInt8) (s : UInt8) (w : World) (hx : Row w g 0 n (bs x)) (ha : 0 < m → a = some ⟨b, o, none⟩) (hy : Rd w b o m (bs y)) (hb : 0 < m → b ≠ g) (hm : m ≤ n) (hn : n ≤ 1000000)
    (hs : m < 100) :
    Calls Tryd.prog 47 #[.slice (some ⟨g, 0, none⟩) n c, .slice a m c', B s] w fun e w' => e = .returned (.tuple #[]) ∧ Done w w' g n (fun j => if j < m then x j ^^^ Gf.mul s (y j) else x j) := by
  by_cases h0 : s = 0
  · subst h0
    refine (addTo_zero _ _ w).mono ?_
    rintro e w' ⟨rfl, rfl⟩
    exact ⟨rfl, Upd.refl _ _, KdKept.refl _, rfl, hx.congr fun j _ => by by_cases e : j < m <;> simp [bs, e, Gf.zero_mul]⟩
  · by_cases h1 : s = 1
    · subst h1
      exact addTo_one a g n c b o m c' x y w hx ha hy hb hm hn
    · exact addTo_small a g n c b o m c' x y s w hx ha hy hb hm hn h0 h1 hs
end Go.Proofs.YthaamnjpjkkolabDoor

/- Codes: params, the matrix of a code; matrices that grow row by row. -/
namespace Go.Proofs.YthaamnjpjkkolabDoor
open Go.RowKit Go.Proofs Lin
set_option maxRecDepth 100000
set_option linter.unusedVariables false

/-- Params, as a value. -/
abbrev PV (D L G : Int) : Value := .agg #[I D, I L, I G]

/-- Params that are right. -/
structure Right (D L G : Nat) : Prop where
  d1 : 1 ≤ D
  d2 : D ≤ 12
  l1 : 1 ≤ L
  l2 : L ≤ 4
  g2 : G ≤ 4
  div : D % L = 0
  sum : D + L + G ≤ 16

def RightI (D L G : Int) : Prop := ∃ d l g : Nat, D = d ∧ L = l ∧ G = g ∧ Right d l g

/-- The matrix of a code. -/
def codeM (D L : Nat) : Mat := fun i j =>
  if i < D then (if i = j then 1 else 0) else if i < D + L then (if D + j / (D / L) = i then 1 else 0) else Gf.inv (UInt8.ofNat ((i - L) ^^^ j))

/-- A matrix that grows row by row: k rows of W bytes are there. -/
structure Gm (w wr : World) (v : Value) (k W : Nat) (M : Mat) (β : Nat → Nat) : Prop where
  below : Below w.heap.size w wr
  vc : Vc wr w.heap.size 28 v k (fun j => .slice (some ⟨β j, 0, none⟩) W W)
  row : ∀ j, j < k → Row wr (β j) 0 W (bs (M j))
  kd : ∀ j, j < k → Kd wr (β j) 5
  own : ∀ j, j < k → w.heap.size ≤ β j
  up : ∀ i j, i < j → j < k → β i < β j

namespace Gm
variable {w wr w1 w3 : World} {v v3 : Value} {k W : Nat} {M N : Mat} {β : Nat → Nat}
theorem start (h : Below w.heap.size w wr) : Gm w wr (.slice none 0 0) 0 W M β :=
  ⟨h, Vc.nil _ _ _ _, fun j hj => absurd hj (by omega), fun j hj => absurd hj (by omega), fun j hj => absurd hj (by omega), fun i j _ hj => absurd hj (by omega)⟩
theorem congr (h : Gm w wr v k W M β) (e : ∀ i, i < k → ∀ j, j < W → M i j = N i j) : Gm w wr v k W N β :=
  ⟨h.below, h.vc, fun j hj => (h.row j hj).congr fun x hx => by simp [bs, e j hj x hx], h.kd, h.own, h.up⟩
theorem kept {G : Nat → Prop} (h : Gm w wr v k W M β) (hu : Upd G wr w1) (hb : ∀ b, G b → w.heap.size ≤ b) (hg : ∀ b, G b → b < wr.heap.size → ∃ t, Kd wr b t ∧ t ≠ 5 ∧ t ≠ 28) : Gm w w1 v k W M β := by
  have key : ∀ j, j < k → ¬ G (β j) := fun j hj hG => by
    obtain ⟨t, ht, h1, _⟩ := hg _ hG (h.kd j hj).lt
    exact (h.kd j hj).ne ht (fun e => h1 e.symm) rfl
  refine ⟨Below.upd h.below hu hb h.below.size, h.vc.kept hu fun t ht hG => ?_, fun j hj => (h.row j hj).upd hu fun _ => key j hj, fun j hj => (h.kd j hj).upd hu (key j hj), h.own, h.up⟩
  obtain ⟨t', ht', _, h2⟩ := hg _ hG (h.vc.lt t ht).2
  exact h.vc.block_ne ht' h2 t ht rfl
theorem later (h : Gm w wr v k W M β) (hb : Below wr.heap.size wr w1) : Gm w w1 v k W M β := h.kept (Upd.of_below hb) (fun _ e => e.elim) (fun _ e => e.elim)
theorem next (h : Gm w wr v k W M β) {ob : Obj} (hu1 : Upd (· = wr.heap.size) (wr.alloc ob) w1) (hr : Row w1 wr.heap.size 0 W (bs (M k))) (hk : Kd w1 wr.heap.size 5)
    (hv : Vc w3 w.heap.size 28 v3 (k + 1) (fun i => if i < k then .slice (some ⟨β i, 0, none⟩) W W else .slice (some ⟨wr.heap.size, 0, none⟩) W W)) (hu : Upd (fun b => some b = v.ownBlock) w1 w3) :
    Gm w w3 v3 (k + 1) W M (fun j => if j < k then β j else wr.heap.size) := by
  have hB := h.below.size
  have key : ∀ j, j < k → β j < wr.heap.size := fun j e => (h.kd j e).lt
  have hv1 := (h.vc.alloc ob).kept hu1 fun t ht e => by have := (h.vc.lt t ht).2; omega
  have hne : ∀ b, Kd w1 b 5 → ¬ some b = v.ownBlock := fun b hb e => hv1.block_ne hb (by decide) b e.symm rfl
  refine ⟨?_, hv.congr fun i hi => ?_, fun j hj => ?_, fun j hj => ?_, fun j hj => ?_, fun i j hij hj => ?_⟩
  · exact Below.upd (Below.upd (h.below.alloc hB _) hu1 (fun b e => by omega) (by rw [Deep.nblk_alloc]; omega)) hu (fun t ht => (h.vc.lt t ht.symm).1) (Nat.le_trans (by rw [Deep.nblk_alloc]; omega) hu1.size)
  · by_cases e : i < k
    · simp [e]
    · simp [e]
  · by_cases e : j < k
    · simp only [if_pos e]
      have h1 := ((h.row j e).alloc ob).upd hu1 fun _ e' => by have := key j e; omega
      have h2 := ((h.kd j e).alloc ob).upd hu1 fun e' => by have := key j e; omega
      exact h1.upd hu fun _ => hne _ h2
    · obtain rfl : j = k := by omega
      simp only [if_neg e]
      exact hr.upd hu fun _ => hne _ hk
  · by_cases e : j < k
    · simp only [if_pos e]
      have h2 := ((h.kd j e).alloc ob).upd hu1 fun e' => by have := key j e; omega
      exact h2.upd hu (hne _ h2)
    · simp only [if_neg e]
      exact hk.upd hu (hne _ hk)
  · by_cases e : j < k
    · simp only [if_pos e]; exact h.own j e
    · simp only [if_neg e]; exact hB
  · by_cases e : j < k
    · simp only [if_pos e, if_pos (show i < k by omega)]; exact h.up i j hij e
    · simp only [if_neg e, if_pos (show i < k by omega)]; exact key i (by omega)
/-- Row i, as a row of a list. -/
def sl (W : Nat) (M : Mat) (β : Nat → Nat) (i : Nat) : Sl := ⟨some ⟨β i, 0, none⟩, β i, 0, W, W, M i⟩
theorem ok (h : Gm w wr v k W M β) (hW : W ≤ 100000) {i : Nat} (hi : i < k) : (sl W M β i).ok wr :=
  ⟨fun _ => rfl, (h.row i hi).rd, Nat.le_refl _, by show W ≤ _; omega⟩
end Gm

theorem tmod_nat (a b : Nat) : ((a : Int).tmod (b : Int)) = ((a % b : Nat) : Int) := by
  rw [Int.tmod_eq_emod_of_nonneg (by omega)]; rfl
theorem tdiv_nat (a b : Nat) : ((a : Int).tdiv (b : Int)) = ((a / b : Nat) : Int) := by
  rw [Int.tdiv_eq_ediv_of_nonneg (by omega)]; rfl

set_option maxHeartbeats 400000 in
theorem shards_any (D L G : Int) (h : 0 ≤ D ∧ D ≤ 1000 ∧ 0 ≤ L ∧ L ≤ 1000 ∧ 0 ≤ G ∧ G ≤ 1000) (w : World) :
    Calls Tryd.prog 44 #[PV D L G] w fun e w' => e = .returned (I (D + L + G)) ∧ Below w.heap.size w w' := by
  obtain ⟨h1, h2, h3, h4, h5, h6⟩ := h
  go_enter Tryd.func44, Tryd.ntmps44
  go_wp2_with fail
  go_ret
  exact ⟨rfl, (Below.refl _ _).alloc (Nat.le_refl _) _⟩

theorem rightI_of {D L G : Int} (h1 : ¬ D < 1) (h2 : ¬ 12 < D) (h3 : ¬ L < 1) (h4 : ¬ 4 < L) (h5 : ¬ G < 0) (h6 : ¬ 4 < G) (h7 : D % L = 0) (h8 : D + L + G ≤ 16) : RightI D L G := by
  obtain ⟨d, rfl⟩ := Int.eq_ofNat_of_zero_le (a := D) (by omega)
  obtain ⟨l, rfl⟩ := Int.eq_ofNat_of_zero_le (a := L) (by omega)
  obtain ⟨g, rfl⟩ := Int.eq_ofNat_of_zero_le (a := G) (by omega)
  exact ⟨d, l, g, rfl, rfl, rfl, ⟨by omega, by omega, by omega, by omega, by omega, by omega, by omega⟩⟩

open Classical in
set_option maxHeartbeats 1000000 in
theorem right_any (D L G : Int) (w : World) :
    Calls Tryd.prog 9 #[PV D L G] w fun e w' => e = .returned (.bool (decide (RightI D L G))) ∧ Below w.heap.size w w' := by
  have no : (D < 1 ∨ 12 < D ∨ L < 1 ∨ 4 < L ∨ G < 0 ∨ 4 < G ∨ D % L ≠ 0 ∨ 16 < D + L + G) → decide (RightI D L G) = false := by
    intro h
    rw [decide_eq_false_iff_not]
    rintro ⟨d, l, g, rfl, rfl, rfl, hr⟩
    have := hr.d1; have := hr.d2; have := hr.l1; have := hr.l2; have := hr.g2; have := hr.div; have := hr.sum
    omega
  by_cases h1 : D < 1
  · have HN := Lib.hid (no (by omega)); clear no
    go_enter Tryd.func9, Tryd.ntmps9
    go_wp2_with fail
    go_ret
    exact ⟨by rw [HN.out]; rfl, (Below.refl _ _).alloc (Nat.le_refl _) _⟩
  by_cases h2 : 12 < D
  · have HN := Lib.hid (no (by omega)); clear no
    go_enter Tryd.func9, Tryd.ntmps9
    go_wp2_with fail
    go_ret
    exact ⟨by rw [HN.out]; rfl, (Below.refl _ _).alloc (Nat.le_refl _) _⟩
  by_cases h3 : L < 1
  · have HN := Lib.hid (no (by omega)); clear no
    go_enter Tryd.func9, Tryd.ntmps9
    go_wp2_with fail
    go_ret
    exact ⟨by rw [HN.out]; rfl, (Below.refl _ _).alloc (Nat.le_refl _) _⟩
  by_cases h4 : 4 < L
  · have HN := Lib.hid (no (by omega)); clear no
    go_enter Tryd.func9, Tryd.ntmps9
    go_wp2_with fail
    go_ret
    exact ⟨by rw [HN.out]; rfl, (Below.refl _ _).alloc (Nat.le_refl _) _⟩
  by_cases h5 : G < 0
  · have HN := Lib.hid (no (by omega)); clear no
    go_enter Tryd.func9, Tryd.ntmps9
    go_wp2_with fail
    go_ret
    exact ⟨by rw [HN.out]; rfl, (Below.refl _ _).alloc (Nat.le_refl _) _⟩
  by_cases h6 : 4 < G
  · have HN := Lib.hid (no (by omega)); clear no
    go_enter Tryd.func9, Tryd.ntmps9
    go_wp2_with fail
    go_ret
    exact ⟨by rw [HN.out]; rfl, (Below.refl _ _).alloc (Nat.le_refl _) _⟩
  have hL0 : L ≠ 0 := by omega
  by_cases h7 : D % L = 0
  · by_cases h8 : D + L + G ≤ 16
    · have HY := Lib.hid (show decide (RightI D L G) = true from decide_eq_true (rightI_of h1 h2 h3 h4 h5 h6 h7 h8)); clear no
      go_enter Tryd.func9, Tryd.ntmps9
      go_wp2_with fail
      go_ret
      refine ⟨by rw [HY.out]; simp, (Below.refl _ _).alloc (Nat.le_refl _) _⟩
    · have HN := Lib.hid (no (by omega)); clear no
      go_enter Tryd.func9, Tryd.ntmps9
      go_wp2_with fail
      go_ret
      refine ⟨by rw [HN.out]; simp, (Below.refl _ _).alloc (Nat.le_refl _) _⟩
  · have HN := Lib.hid (no (by omega)); clear no
    go_enter Tryd.func9, Tryd.ntmps9
    go_wp2_with fail
    go_ret
    refine ⟨by rw [HN.out]; rfl, (Below.refl _ _).alloc (Nat.le_refl _) _⟩
set_option maxHeartbeats 400000 in
theorem theirs_any (D L G : Int) (w : World) :
    Calls Tryd.prog 8 #[PV D L G] w fun e w' => e = .returned (PV D L G) ∧ Below w.heap.size w w' := by
  go_enter Tryd.func8, Tryd.ntmps8
  go_wp2_with fail
  go_returns
  exact ⟨rfl, ((Below.refl _ _).alloc (Nat.le_refl _) _).alloc (by simp) _⟩
def pcI (D L G : Int) : Nat → Value := fun i => if i = 0 then I D else if i = 1 then I L else I G
theorem pcI_new (w : World) (D L G : Int) (t : TypeId) : Rd (w.alloc (.cells #[I D, I L, I G] t)) w.heap.size 0 3 (pcI D L G) := by
  intro i hi
  simp only [World.cell?, Nat.zero_add, Deep.blk_alloc_new]
  rcases (show i = 0 ∨ i = 1 ∨ i = 2 by omega) with rfl | rfl | rfl <;> simp [pcI]

end Go.Proofs.YthaamnjpjkkolabDoor

/- The matrix of a code: small laws. -/
namespace Go.Proofs.YthaamnjpjkkolabDoor
open Go.RowKit Go.Proofs Lin
set_option maxRecDepth 100000
set_option linter.unusedVariables false

/-- x / y of ints that are not below nought. -/
theorem div_run (a b : Nat) (hb : 0 < b) (ha : a < 2 ^ 62) (w : World) : (Op.intDiv .quo .i64 (a : Int) (b : Int)).run Tryd.prog w = .ok (I ((a / b : Nat) : Int)) w := by
  have h0 : ¬ ((b : Int) = 0) := by omega
  have hle : a / b ≤ a := Nat.div_le_self _ _
  have hw : IntKind.i64.wrap ((a / b : Nat) : Int) = ((a / b : Nat) : Int) := wraps_i64 _ (Int.natCast_nonneg _) (by generalize a / b = q at *; omega)
  show ((if (b : Int) = 0 then _ else pure (.int .i64 (IntKind.i64.wrap ((a : Int).tdiv (b : Int)))) : Sem Value)).run Tryd.prog w = _
  rw [if_neg h0, tdiv_nat, hw]
  rfl

/-- A row of noughts of which byte i is turned to 1. -/
theorem codeM_data {D L k : Nat} (hk : k < D) : (fun j => if j = k then (1 : UInt8) else 0) = codeM D L k := by
  funext j; unfold codeM; rw [if_pos hk]
  by_cases e : j = k
  · rw [if_pos e, if_pos e.symm]
  · rw [if_neg e, if_neg fun e' => e e'.symm]
theorem codeM_local {D L k j : Nat} (hd : D % L = 0) (hL : 1 ≤ L) (hD : 1 ≤ D) (hk : k < L) (hj : j < D) : (if k * (D / L) ≤ j ∧ j < k * (D / L) + D / L then (1 : UInt8) else 0) = codeM D L (D + k) j := by
  have e0 : codeM D L (D + k) j = if D + j / (D / L) = D + k then 1 else 0 := by unfold codeM; rw [if_neg (by omega), if_pos (by omega)]
  have hs : 0 < D / L := Nat.div_pos (Nat.le_of_dvd (by omega) (Nat.dvd_of_mod_eq_zero hd)) (by omega)
  have e : (k * (D / L) ≤ j ∧ j < k * (D / L) + D / L) ↔ D + j / (D / L) = D + k := by
    rw [Nat.add_left_cancel_iff, Nat.div_eq_iff hs]
    omega
  rw [e0]
  by_cases h : k * (D / L) ≤ j ∧ j < k * (D / L) + D / L
  · rw [if_pos h, if_pos (e.1 h)]
  · rw [if_neg h, if_neg fun h' => h (e.2 h')]
theorem codeM_global {D L k j : Nat} : Gf.inv (UInt8.ofNat ((D + k) ^^^ j)) = codeM D L (D + L + k) j := by
  unfold codeM
  rw [if_neg (by omega), if_neg (by omega), show D + L + k - L = D + k by omega]

section
variable {w wr w1 : World} {v : Value} {k W : Nat} {M : Mat} {β : Nat → Nat}
theorem Gm.vcFill (h : Gm w wr v k W M β) {ob : Obj} (hu1 : Upd (· = wr.heap.size) (wr.alloc ob) w1) : Vc w1 w.heap.size 28 v k (fun j => .slice (some ⟨β j, 0, none⟩) W W) :=
  (h.vc.alloc ob).kept hu1 fun t ht e => by have := (h.vc.lt t ht).2; omega
theorem Gm.szFill (h : Gm w wr v k W M β) {ob : Obj} (hu1 : Upd (· = wr.heap.size) (wr.alloc ob) w1) : w.heap.size ≤ w1.heap.size := by
  have h1 := h.below.size
  have h2 := hu1.size
  rw [Deep.nblk_alloc] at h2; omega
theorem Gm.mono {w0 : World} (h : Gm w wr v k W M β) (hb : Below w0.heap.size w0 w) : Gm w0 wr v k W M β := by
  have hs := hb.size
  refine ⟨hb.trans (h.below.mono hs), ⟨h.vc.1, ?_⟩, h.row, h.kd, fun j hj => Nat.le_trans hs (h.own j hj), h.up⟩
  rcases h.vc.2 with h0 | ⟨g, cap, cur, e1, e2, rest⟩
  · exact .inl h0
  · exact .inr ⟨g, cap, cur, e1, Nat.le_trans hs e2, rest⟩
theorem Doing.from {g n m : Nat} {x y : Nat → UInt8} (h : Row w g 0 n (bs x)) (e : ∀ j, j < m → y j = x j) : Doing w w g n m x y :=
  ⟨Upd.refl _ _, KdKept.refl _, rfl, h.congr fun j _ => by by_cases hj : j < m <;> simp [bs, hj, e]⟩
theorem Doing.rowTo {g n m : Nat} {x y : Nat → UInt8} (h : Doing w wr g n m x y) (e : ∀ j, m ≤ j → j < n → y j = x j) : Row wr g 0 n (bs y) :=
  h.row.congr fun j hj => by
    by_cases h1 : j < m
    · simp [bs, h1]
    · simp [bs, h1, e j (by omega) hj]
end

/-- The three numbers of params that lie in a block. -/
def pcells (D L G : Nat) : Nat → Value := fun i => if i = 0 then I D else if i = 1 then I L else I G

theorem pcells_new (w : World) (D L G : Nat) (t : TypeId) : Rd (w.alloc (.cells #[I D, I L, I G] t)) w.heap.size 0 3 (pcells D L G) := by
  intro i hi
  simp only [World.cell?, Nat.zero_add, Deep.blk_alloc_new]
  rcases (show i = 0 ∨ i = 1 ∨ i = 2 by omega) with rfl | rfl | rfl <;> simp [pcells]

/-- Behind the test of its params: the box of the params lies in block pb. -/
structure MatIn (w w1 : World) (D L G pb : Nat) : Prop where
  below : Below w.heap.size w w1
  par : Rd w1 pb 0 3 (pcells D L G)

theorem MatIn.mk' {w w1 : World} {D L G : Nat} {t : TypeId} (hb : Below (w.alloc (.cells #[I D, I L, I G] t)).heap.size (w.alloc (.cells #[I D, I L, I G] t)) w1) : MatIn w w1 D L G w.heap.size :=
  ⟨((Below.refl w.heap.size w).alloc (Nat.le_refl _) (.cells #[I D, I L, I G] t)).trans (hb.mono (by simp)), (pcells_new w D L G t).later hb⟩

end Go.Proofs.YthaamnjpjkkolabDoor

/- Sets of shards: Has, Whole. -/
namespace Go.Proofs.YthaamnjpjkkolabDoor
open Go.RowKit Go.Proofs Lin
set_option maxRecDepth 100000
set_option linter.unusedVariables false

/-- A uint64. -/
abbrev U (n : Nat) : Value := .int .u64 (n : Int)

theorem wraps_u64 (n : Int) (h₀ : 0 ≤ n) (h₁ : n < 2 ^ 64) : IntKind.u64.wrap n = n := by
  show n % 2 ^ 64 = n
  exact Int.emod_eq_of_lt h₀ h₁

theorem u64_and_nat (a b : Nat) (ha : a < 2 ^ 64) (hb : b < 2 ^ 64) : bits .and .u64 (a : Int) (b : Int) = ((a &&& b : Nat) : Int) :=
  (bits_nat .u64 64 (by decide) wraps_u64 a b ha hb).1

theorem has_spell (x i : Nat) (hx : x < 2 ^ 64) : (bits .and .u64 ((x : Int) / 2 ^ i) 1 == 1) = x.testBit i := by
  have e : (x : Int) / 2 ^ i = ((x / 2 ^ i : Nat) : Int) := by simp
  have hd : x / 2 ^ i ≤ x := Nat.div_le_self _ _
  rw [e, show (1 : Int) = ((1 : Nat) : Int) from rfl, u64_and_nat _ _ (by omega) (by omega), nat_mask1, Nat.testBit_eq_decide_div_mod_eq]
  by_cases h : x / 2 ^ i % 2 = 1
  · simp [h]
  · have : x / 2 ^ i % 2 = 0 := by omega
    simp [this]

set_option maxHeartbeats 400000 in
theorem has_any (x i : Nat) (hx : x < 2 ^ 64) (hi : i < 64) (w : World) :
    Calls Tryd.prog 74 #[U x, I i] w fun e w' => e = .returned (.bool (x.testBit i)) ∧ w' = w := by
  have HX := Lib.hid (has_spell x i hx)
  go_enter Tryd.func74, Tryd.ntmps74
  go_wp2_with fail
  go_ret
  exact ⟨by rw [← HX.out]; rfl, rfl⟩

set_option maxHeartbeats 400000 in
theorem refHas_any (x i : Nat) (hx : x < 2 ^ 64) (hi : i < 64) (w : World) :
    Calls Tryd.prog 15 #[U x, I i] w fun e w' => e = .returned (.bool (x.testBit i)) ∧ w' = w := by
  have HX := Lib.hid (has_spell x i hx)
  go_enter Tryd.func15, Tryd.ntmps15
  go_wp2_with fail
  go_ret
  exact ⟨by rw [← HX.out]; rfl, rfl⟩

set_option maxHeartbeats 400000 in
theorem refShards_any (D L G : Int) (h : 0 ≤ D ∧ D ≤ 1000 ∧ 0 ≤ L ∧ L ≤ 1000 ∧ 0 ≤ G ∧ G ≤ 1000) (w : World) :
    Calls Tryd.prog 12 #[PV D L G] w fun e w' => e = .returned (I (D + L + G)) ∧ Below w.heap.size w w' := by
  obtain ⟨h1, h2, h3, h4, h5, h6⟩ := h
  go_enter Tryd.func12, Tryd.ntmps12
  go_wp2_with fail
  go_ret
  exact ⟨rfl, (Below.refl _ _).alloc (Nat.le_refl _) _⟩

end Go.Proofs.YthaamnjpjkkolabDoor
