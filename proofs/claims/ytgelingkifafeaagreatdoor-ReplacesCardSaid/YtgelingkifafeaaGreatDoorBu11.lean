import Derived.Test.YtgelingkifafeaaGreatDoorBu07
import Derived.Test.YtgelingkifafeaaGreatDoorBu02
import Derived.Test.YtgelingkifafeaaGreatDoorBu01
/- Matrices of bytes: Clone, Scale, AddTo, By. -/
namespace Go.Proofs.YtgelingkifafeaaGreatDoor
open Go.RowKit Go.Proofs
set_option maxRecDepth 100000
set_option linter.unusedVariables false

/-- make(Matrix, n) -/
theorem make_rows (n : Int) (h0 : 0 ≤ n) (h1 : n ≤ 1000000) (w : World) :
    (Instr.makeSlice 122 (.int .i64 n) (.int .i64 n)).run Tryz.prog w = .ok (.slice (some ⟨w.heap.size, 0, none⟩) n.toNat n.toNat) (w.alloc (.cells (madeCells #[.slice none 0 0] n.toNat) 49)) := by
  have := run_make_row' (P := Tryz.prog) 122 49 (.slice none 0 0) 24 Tryz.underlying122 infoBs rfl .i64 .i64 n.toNat (by omega) (by omega) w
  rwa [Int.toNat_of_nonneg h0] at this

/-- A matrix of n rows of W bytes: its outer row is block g, row i is block β i. -/
structure Mx (w : World) (g n W : Nat) (β : Nat → Nat) (M : Nat → Nat → UInt8) : Prop where
  outer : Row w g 0 n (fun i => .slice (some ⟨β i, 0, none⟩) W W)
  rows : ∀ i, i < n → Row w (β i) 0 W (bs (M i))
  kd : ∀ i, i < n → Kd w (β i) 5
  inj : ∀ i j, i < n → j < n → β i = β j → i = j
  gk : Kd w g 49

theorem Mx.ne {w : World} {g n W : Nat} {β : Nat → Nat} {M : Nat → Nat → UInt8} (h : Mx w g n W β M) {i : Nat} (hi : i < n) : β i ≠ g := (h.kd i hi).ne h.gk (by decide)

/-- A row, filled up with noughts. -/
def padX (s : Sl) : Nat → UInt8 := fun j => if j < s.n then s.x j else 0

/-! ### Scale, AddTo -/

/-- What a loop over a row's bytes has made of the row: the first k are done. -/
structure Doing (w wr : World) (g n k : Nat) (x y : Nat → UInt8) : Prop where
  upd : Upd (· = g) w wr
  kd : KdKept w wr
  size : wr.heap.size = w.heap.size
  row : Row wr g 0 n (bs (fun j => if j < k then y j else x j))

theorem Doing.start {w : World} {g n : Nat} {x y : Nat → UInt8} (h : Row w g 0 n (bs x)) : Doing w w g n 0 x y :=
  ⟨Upd.refl _ _, KdKept.refl _, rfl, h.congr fun j _ => by simp⟩
theorem Doing.drewN {w wr : World} {g n k : Nat} {x y : Nat → UInt8} (h : Doing w wr g n k x y) (q : Nat) : Doing w (wr.drewN q) g n k x y :=
  ⟨h.upd.drewN q, h.kd.drewN q, h.size, h.row.drewN q⟩
theorem Doing.next {w wr : World} {g n k : Nat} {x y : Nat → UInt8} (h : Doing w wr g n k x y) (hk : k < n) {v : Int} (hv : v = ((y k).toNat : Int)) :
    Doing w (wr.setCell ⟨g, k, none⟩ (.int .u8 v)) g n (k + 1) x y := by
  refine ⟨h.upd.setCell (fun _ => rfl) _, h.kd.set _ _, by rw [Deep.nblk_setCell]; exact h.size, (Row.set8 h.row hk (y k) hv).congr fun j _ => ?_⟩
  by_cases e : j = k
  · subst e; simp [bs]
  · by_cases e2 : j < k
    · simp [bs, e, e2, show j < k + 1 by omega]
    · simp [bs, e, e2, show ¬ j < k + 1 by omega]
/-- A byte that stays as it is. -/
theorem Doing.skip {w wr : World} {g n k : Nat} {x y : Nat → UInt8} (h : Doing w wr g n k x y) (e : k < n → y k = x k) : Doing w wr g n (k + 1) x y := by
  refine ⟨h.upd, h.kd, h.size, h.row.congr fun j hj => ?_⟩
  by_cases e1 : j = k
  · subst e1; simp [bs, e hj]
  · by_cases e2 : j < k
    · simp [bs, e2, show j < k + 1 by omega]
    · simp [bs, e2, show ¬ j < k + 1 by omega]
theorem Doing.cellAt {w wr : World} {g n k : Nat} {x y : Nat → UInt8} (h : Doing w wr g n k x y) (hk : k < n) : wr.cell? ⟨g, k, none⟩ = some (B (x k)) := by
  have := h.row.cell k hk; simpa [bs] using this
theorem Doing.freeAt {w wr : World} {g n k : Nat} {x y : Nat → UInt8} (h : Doing w wr g n k x y) (hk : k < n) : wr.frozen? ⟨g, k, none⟩ = false := by
  have := h.row.free k hk; simpa using this

/-- What such a call leaves. -/
structure Done (w w' : World) (g n : Nat) (y : Nat → UInt8) : Prop where
  upd : Upd (· = g) w w'
  kd : KdKept w w'
  size : w'.heap.size = w.heap.size
  row : Row w' g 0 n (bs y)
theorem Doing.done {w wr : World} {g n : Nat} {x y : Nat → UInt8} (h : Doing w wr g n n x y) : Done w wr g n y :=
  ⟨h.upd, h.kd, h.size, h.row.congr fun j hj => by simp [bs, hj]⟩

/-- AddTo, of rows that are not long. -/
theorem addTo_zero (v1 v2 : Value) (w : World) : Calls Tryz.prog 101 #[v1, v2, B 0] w fun e w' => e = .returned (.tuple #[]) ∧ w = w' := by
  go_enter Tryz.func101, Tryz.ntmps101
  go_wp2
  go_end0
  exact ⟨rfl, rfl⟩

set_option maxHeartbeats 400000 in
theorem addTo_one (a : Option Addr) (g n c b o m c' : Nat) (x y : Nat → UInt8) (w : World) (hx : Row w g 0 n (bs x)) (ha : 0 < m → a = some ⟨b, o, none⟩) (hy : Rd w b o m (bs y)) (hb : 0 < m → b ≠ g) (hm : m ≤ n) (hn : n ≤ 1000000) :
    Calls Tryz.prog 101 #[.slice (some ⟨g, 0, none⟩) n c, .slice a m c', B 1] w fun e w' => e = .returned (.tuple #[]) ∧ Done w w' g n (fun j => if j < m then x j ^^^ Gf.mul 1 (y j) else x j) := by
  have HX := Lib.hid hx
  have HY := Lib.hid hy
  clear hx hy
  go_enter Tryz.func101, Tryz.ntmps101
  go_wp2_with fail
  go_loopw [63] (fun i wr => ∃ k : Nat, k ≤ m ∧ i = I k ∧ Doing w wr g n k x (fun j => if j < m then x j ^^^ Gf.mul 1 (y j) else x j)) (fun i _ => m - (intOf i).toNat)
  case atStart => exact ⟨0, by omega, rfl, Doing.start HX.out⟩
  case round =>
    obtain ⟨k, hk, rfl, hd⟩ := hrel
    have HD := Lib.hid hd
    clear hd
    by_cases hlt : k < m
    · obtain rfl := ha (by omega)
      have c1 := HD.out.cellAt (show k < n by omega)
      have f1 := HD.out.freeAt (show k < n by omega)
      have c2 : wr.cell? ⟨b, o + k, none⟩ = some (B (y k)) := (HY.out.upd HD.out.upd hb) k hlt
      go_wp2
      go_roundw
      case rel => exact ⟨k + 1, by omega, by go_num, HD.out.next (by omega) (by rw [if_pos hlt, Gf.one_mul, xor8])⟩
      case measure => simp [intOf]; omega
    · go_wp2
      go_end0
      obtain rfl : k = m := by omega
      exact ⟨rfl, HD.out.upd, HD.out.kd, HD.out.size, HD.out.row.congr fun j _ => by by_cases e : j < k <;> simp [bs, e]⟩

theorem mul_still (x y : UInt8) (w : World) : Calls Tryz.prog 64 #[B x, B y] w fun e w' => e = .returned (B (Gf.mul x y)) ∧ w' = w :=
  (mul_any x y w).mono fun _ _ ⟨h1, h2⟩ => ⟨h1, h2.symm⟩

theorem byte_ne_lit {k : UInt8} {n : Nat} (h : k ≠ UInt8.ofNat n) (hn : n < 256) : ((k.toNat : Int) == (n : Int)) = false := by
  rw [beq_eq_false_iff_ne]
  intro e
  apply h
  apply UInt8.toNat.inj
  rw [UInt8.toNat_ofNat', Nat.mod_eq_of_lt (by omega)]
  omega

set_option maxHeartbeats 400000 in
theorem addTo_small (a : Option Addr) (g n c b o m c' : Nat) (x y : Nat → UInt8) (s : UInt8) (w : World) (hx : Row w g 0 n (bs x)) (ha : 0 < m → a = some ⟨b, o, none⟩) (hy : Rd w b o m (bs y)) (hb : 0 < m → b ≠ g) (hm : m ≤ n) (hn : n ≤ 1000000)
    (h0 : s ≠ 0) (h1 : s ≠ 1) (hs : m < 100) :
    Calls Tryz.prog 101 #[.slice (some ⟨g, 0, none⟩) n c, .slice a m c', B s] w fun e w' => e = .returned (.tuple #[]) ∧ Done w w' g n (fun j => if j < m then x j ^^^ Gf.mul s (y j) else x j) := by
  have HX := Lib.hid hx
  have HY := Lib.hid hy
  clear hx hy
  have e0 : ((s.toNat : Int) == 0) = false := byte_ne_lit (n := 0) h0 (by omega)
  have e1 : ((s.toNat : Int) == 1) = false := byte_ne_lit (n := 1) h1 (by omega)
  have hd : decide ((m : Int) < 100) = true := by simp; omega
  go_enter Tryz.func101, Tryz.ntmps101
  go_wp2_with fail
  go_loopw [19] (fun i wr => ∃ k : Nat, k ≤ m ∧ i = I k ∧ Doing w wr g n k x (fun j => if j < m then x j ^^^ Gf.mul s (y j) else x j)) (fun i _ => m - (intOf i).toNat)
  case atStart => exact ⟨0, by omega, rfl, Doing.start HX.out⟩
  case round =>
    obtain ⟨k, hk, rfl, hd⟩ := hrel
    have HD := Lib.hid hd
    clear hd
    by_cases hlt : k < m
    · obtain rfl := ha (by omega)
      have c1 := HD.out.cellAt (show k < n by omega)
      have f1 := HD.out.freeAt (show k < n by omega)
      have c2 : wr.cell? ⟨b, o + k, none⟩ = some (B (y k)) := (HY.out.upd HD.out.upd hb) k hlt
      by_cases hz : y k = 0
      · have ez : ((y k).toNat : Int) = 0 := by rw [hz]; rfl
        have HZ := Lib.hid hz
        clear hz
        go_wp2_with fail
        go_roundw
        case rel => exact ⟨k + 1, by omega, by go_num, HD.out.skip fun _ => by simp only [if_pos hlt]; rw [HZ.out, Gf.mul_zero]; simp⟩
        case measure => simp [intOf]; omega
      · have ez : ((y k).toNat : Int) ≠ 0 := fun e => hz (UInt8.toNat.inj (by simpa using e))
        clear hz
        have hkn : k < n := by omega
        go_wp2_with fail
        go_still_tail 9, mixed
        still_call (mul_still _ _ _)
        repeat still_step
        refine wpStill_nil ?_
        change wpList _ _ _ _ _ (wr.drewN 1)
        go_wp2
        go_roundw
        case rel => exact ⟨k + 1, by omega, by go_num, (HD.out.drewN 1).next (by omega) (by simp only [if_pos hlt]; exact xor8 _ _)⟩
        case measure => simp [intOf]; omega
    · go_wp2
      go_returns
      obtain rfl : k = m := by omega
      exact ⟨rfl, HD.out.upd, HD.out.kd, HD.out.size, HD.out.row.congr fun j _ => by by_cases e : j < k <;> simp [bs, e]⟩

/-- AddTo, of rows that are not long: whatever the number. -/
theorem addTo_short (a : Option Addr) (g n c b o m c' : Nat) (x y : Nat → UInt8) (s : UInt8) (w : World) (hx : Row w g 0 n (bs x)) (ha : 0 < m → a = some ⟨b, o, none⟩) (hy : Rd w b o m (bs y)) (hb : 0 < m → b ≠ g) (hm : m ≤ n) (hn : n ≤ 1000000)
    (hs : m < 100) :
    Calls Tryz.prog 101 #[.slice (some ⟨g, 0, none⟩) n c, .slice a m c', B s] w fun e w' => e = .returned (.tuple #[]) ∧ Done w w' g n (fun j => if j < m then x j ^^^ Gf.mul s (y j) else x j) := by
  by_cases h0 : s = 0
  · subst h0
    refine (addTo_zero _ _ w).mono ?_
    rintro e w' ⟨rfl, rfl⟩
    exact ⟨rfl, Upd.refl _ _, KdKept.refl _, rfl, hx.congr fun j _ => by by_cases e : j < m <;> simp [bs, e, Gf.zero_mul]⟩
  · by_cases h1 : s = 1
    · subst h1
      exact addTo_one a g n c b o m c' x y w hx ha hy hb hm hn
    · exact addTo_small a g n c b o m c' x y s w hx ha hy hb hm hn h0 h1 hs
end Go.Proofs.YtgelingkifafeaaGreatDoor

/- Codes: params, the matrix of a code; matrices that grow row by row. -/
namespace Go.Proofs.YtgelingkifafeaaGreatDoor
open Go.RowKit Go.Proofs Lin
set_option maxRecDepth 100000
set_option linter.unusedVariables false

/-- Params, as a value. -/
abbrev PV (D L G : Int) : Value := .agg #[I D, I L, I G]

/-- Params that are right. -/
structure Right (D L G : Nat) : Prop where
  d1 : 1 ≤ D
  d2 : D ≤ 12
  l1 : 1 ≤ L
  l2 : L ≤ 4
  g2 : G ≤ 4
  div : D % L = 0
  sum : D + L + G ≤ 16

def RightI (D L G : Int) : Prop := ∃ d l g : Nat, D = d ∧ L = l ∧ G = g ∧ Right d l g

/-- The matrix of a code. -/
def codeM (D L : Nat) : Mat := fun i j =>
  if i < D then (if i = j then 1 else 0) else if i < D + L then (if D + j / (D / L) = i then 1 else 0) else Gf.inv (UInt8.ofNat ((i - L) ^^^ j))

/-- A matrix that grows row by row: k rows of W bytes are there. -/
structure Gm (w wr : World) (v : Value) (k W : Nat) (M : Mat) (β : Nat → Nat) : Prop where
  below : Below w.heap.size w wr
  vc : Vc wr w.heap.size 49 v k (fun j => .slice (some ⟨β j, 0, none⟩) W W)
  row : ∀ j, j < k → Row wr (β j) 0 W (bs (M j))
  kd : ∀ j, j < k → Kd wr (β j) 5
  own : ∀ j, j < k → w.heap.size ≤ β j
  up : ∀ i j, i < j → j < k → β i < β j

namespace Gm
variable {w wr w1 w3 : World} {v v3 : Value} {k W : Nat} {M N : Mat} {β : Nat → Nat}
theorem start (h : Below w.heap.size w wr) : Gm w wr (.slice none 0 0) 0 W M β :=
  ⟨h, Vc.nil _ _ _ _, fun j hj => absurd hj (by omega), fun j hj => absurd hj (by omega), fun j hj => absurd hj (by omega), fun i j _ hj => absurd hj (by omega)⟩
theorem congr (h : Gm w wr v k W M β) (e : ∀ i, i < k → ∀ j, j < W → M i j = N i j) : Gm w wr v k W N β :=
  ⟨h.below, h.vc, fun j hj => (h.row j hj).congr fun x hx => by simp [bs, e j hj x hx], h.kd, h.own, h.up⟩
theorem kept {G : Nat → Prop} (h : Gm w wr v k W M β) (hu : Upd G wr w1) (hb : ∀ b, G b → w.heap.size ≤ b) (hg : ∀ b, G b → b < wr.heap.size → ∃ t, Kd wr b t ∧ t ≠ 5 ∧ t ≠ 49) : Gm w w1 v k W M β := by
  have key : ∀ j, j < k → ¬ G (β j) := fun j hj hG => by
    obtain ⟨t, ht, h1, _⟩ := hg _ hG (h.kd j hj).lt
    exact (h.kd j hj).ne ht (fun e => h1 e.symm) rfl
  refine ⟨Below.upd h.below hu hb h.below.size, h.vc.kept hu fun t ht hG => ?_, fun j hj => (h.row j hj).upd hu fun _ => key j hj, fun j hj => (h.kd j hj).upd hu (key j hj), h.own, h.up⟩
  obtain ⟨t', ht', _, h2⟩ := hg _ hG (h.vc.lt t ht).2
  exact h.vc.block_ne ht' h2 t ht rfl
theorem later (h : Gm w wr v k W M β) (hb : Below wr.heap.size wr w1) : Gm w w1 v k W M β := h.kept (Upd.of_below hb) (fun _ e => e.elim) (fun _ e => e.elim)
theorem next (h : Gm w wr v k W M β) {ob : Obj} (hu1 : Upd (· = wr.heap.size) (wr.alloc ob) w1) (hr : Row w1 wr.heap.size 0 W (bs (M k))) (hk : Kd w1 wr.heap.size 5)
    (hv : Vc w3 w.heap.size 49 v3 (k + 1) (fun i => if i < k then .slice (some ⟨β i, 0, none⟩) W W else .slice (some ⟨wr.heap.size, 0, none⟩) W W)) (hu : Upd (fun b => some b = v.ownBlock) w1 w3) :
    Gm w w3 v3 (k + 1) W M (fun j => if j < k then β j else wr.heap.size) := by
  have hB := h.below.size
  have key : ∀ j, j < k → β j < wr.heap.size := fun j e => (h.kd j e).lt
  have hv1 := (h.vc.alloc ob).kept hu1 fun t ht e => by have := (h.vc.lt t ht).2; omega
  have hne : ∀ b, Kd w1 b 5 → ¬ some b = v.ownBlock := fun b hb e => hv1.block_ne hb (by decide) b e.symm rfl
  refine ⟨?_, hv.congr fun i hi => ?_, fun j hj => ?_, fun j hj => ?_, fun j hj => ?_, fun i j hij hj => ?_⟩
  · exact Below.upd (Below.upd (h.below.alloc hB _) hu1 (fun b e => by omega) (by rw [Deep.nblk_alloc]; omega)) hu (fun t ht => (h.vc.lt t ht.symm).1) (Nat.le_trans (by rw [Deep.nblk_alloc]; omega) hu1.size)
  · by_cases e : i < k
    · simp [e]
    · simp [e]
  · by_cases e : j < k
    · simp only [if_pos e]
      have h1 := ((h.row j e).alloc ob).upd hu1 fun _ e' => by have := key j e; omega
      have h2 := ((h.kd j e).alloc ob).upd hu1 fun e' => by have := key j e; omega
      exact h1.upd hu fun _ => hne _ h2
    · obtain rfl : j = k := by omega
      simp only [if_neg e]
      exact hr.upd hu fun _ => hne _ hk
  · by_cases e : j < k
    · simp only [if_pos e]
      have h2 := ((h.kd j e).alloc ob).upd hu1 fun e' => by have := key j e; omega
      exact h2.upd hu (hne _ h2)
    · simp only [if_neg e]
      exact hk.upd hu (hne _ hk)
  · by_cases e : j < k
    · simp only [if_pos e]; exact h.own j e
    · simp only [if_neg e]; exact hB
  · by_cases e : j < k
    · simp only [if_pos e, if_pos (show i < k by omega)]; exact h.up i j hij e
    · simp only [if_neg e, if_pos (show i < k by omega)]; exact key i (by omega)
/-- Row i, as a row of a list. -/
def sl (W : Nat) (M : Mat) (β : Nat → Nat) (i : Nat) : Sl := ⟨some ⟨β i, 0, none⟩, β i, 0, W, W, M i⟩
theorem ok (h : Gm w wr v k W M β) (hW : W ≤ 100000) {i : Nat} (hi : i < k) : (sl W M β i).ok wr :=
  ⟨fun _ => rfl, (h.row i hi).rd, Nat.le_refl _, by show W ≤ _; omega⟩
end Gm

theorem tmod_nat (a b : Nat) : ((a : Int).tmod (b : Int)) = ((a % b : Nat) : Int) := by
  rw [Int.tmod_eq_emod_of_nonneg (by omega)]; rfl
theorem tdiv_nat (a b : Nat) : ((a : Int).tdiv (b : Int)) = ((a / b : Nat) : Int) := by
  rw [Int.tdiv_eq_ediv_of_nonneg (by omega)]; rfl

set_option maxHeartbeats 400000 in
theorem shards_any (D L G : Int) (h : 0 ≤ D ∧ D ≤ 1000 ∧ 0 ≤ L ∧ L ≤ 1000 ∧ 0 ≤ G ∧ G ≤ 1000) (w : World) :
    Calls Tryz.prog 15 #[PV D L G] w fun e w' => e = .returned (I (D + L + G)) ∧ Below w.heap.size w w' := by
  obtain ⟨h1, h2, h3, h4, h5, h6⟩ := h
  go_enter Tryz.func15, Tryz.ntmps15
  go_wp2_with fail
  go_ret
  exact ⟨rfl, (Below.refl _ _).alloc (Nat.le_refl _) _⟩

theorem rightI_of {D L G : Int} (h1 : ¬ D < 1) (h2 : ¬ 12 < D) (h3 : ¬ L < 1) (h4 : ¬ 4 < L) (h5 : ¬ G < 0) (h6 : ¬ 4 < G) (h7 : D % L = 0) (h8 : D + L + G ≤ 16) : RightI D L G := by
  obtain ⟨d, rfl⟩ := Int.eq_ofNat_of_zero_le (a := D) (by omega)
  obtain ⟨l, rfl⟩ := Int.eq_ofNat_of_zero_le (a := L) (by omega)
  obtain ⟨g, rfl⟩ := Int.eq_ofNat_of_zero_le (a := G) (by omega)
  exact ⟨d, l, g, rfl, rfl, rfl, ⟨by omega, by omega, by omega, by omega, by omega, by omega, by omega⟩⟩

open Classical in
set_option maxHeartbeats 1000000 in
theorem right_any (D L G : Int) (w : World) :
    Calls Tryz.prog 9 #[PV D L G] w fun e w' => e = .returned (.bool (decide (RightI D L G))) ∧ Below w.heap.size w w' := by
  have no : (D < 1 ∨ 12 < D ∨ L < 1 ∨ 4 < L ∨ G < 0 ∨ 4 < G ∨ D % L ≠ 0 ∨ 16 < D + L + G) → decide (RightI D L G) = false := by
    intro h
    rw [decide_eq_false_iff_not]
    rintro ⟨d, l, g, rfl, rfl, rfl, hr⟩
    have := hr.d1; have := hr.d2; have := hr.l1; have := hr.l2; have := hr.g2; have := hr.div; have := hr.sum
    omega
  by_cases h1 : D < 1
  · have HN := Lib.hid (no (by omega)); clear no
    go_enter Tryz.func9, Tryz.ntmps9
    go_wp2_with fail
    go_ret
    exact ⟨by rw [HN.out]; rfl, (Below.refl _ _).alloc (Nat.le_refl _) _⟩
  by_cases h2 : 12 < D
  · have HN := Lib.hid (no (by omega)); clear no
    go_enter Tryz.func9, Tryz.ntmps9
    go_wp2_with fail
    go_ret
    exact ⟨by rw [HN.out]; rfl, (Below.refl _ _).alloc (Nat.le_refl _) _⟩
  by_cases h3 : L < 1
  · have HN := Lib.hid (no (by omega)); clear no
    go_enter Tryz.func9, Tryz.ntmps9
    go_wp2_with fail
    go_ret
    exact ⟨by rw [HN.out]; rfl, (Below.refl _ _).alloc (Nat.le_refl _) _⟩
  by_cases h4 : 4 < L
  · have HN := Lib.hid (no (by omega)); clear no
    go_enter Tryz.func9, Tryz.ntmps9
    go_wp2_with fail
    go_ret
    exact ⟨by rw [HN.out]; rfl, (Below.refl _ _).alloc (Nat.le_refl _) _⟩
  by_cases h5 : G < 0
  · have HN := Lib.hid (no (by omega)); clear no
    go_enter Tryz.func9, Tryz.ntmps9
    go_wp2_with fail
    go_ret
    exact ⟨by rw [HN.out]; rfl, (Below.refl _ _).alloc (Nat.le_refl _) _⟩
  by_cases h6 : 4 < G
  · have HN := Lib.hid (no (by omega)); clear no
    go_enter Tryz.func9, Tryz.ntmps9
    go_wp2_with fail
    go_ret
    exact ⟨by rw [HN.out]; rfl, (Below.refl _ _).alloc (Nat.le_refl _) _⟩
  have hL0 : L ≠ 0 := by omega
  by_cases h7 : D % L = 0
  · by_cases h8 : D + L + G ≤ 16
    · have HY := Lib.hid (show decide (RightI D L G) = true from decide_eq_true (rightI_of h1 h2 h3 h4 h5 h6 h7 h8)); clear no
      go_enter Tryz.func9, Tryz.ntmps9
      go_wp2_with fail
      go_ret
      refine ⟨by rw [HY.out]; simp, (Below.refl _ _).alloc (Nat.le_refl _) _⟩
    · have HN := Lib.hid (no (by omega)); clear no
      go_enter Tryz.func9, Tryz.ntmps9
      go_wp2_with fail
      go_ret
      refine ⟨by rw [HN.out]; simp, (Below.refl _ _).alloc (Nat.le_refl _) _⟩
  · have HN := Lib.hid (no (by omega)); clear no
    go_enter Tryz.func9, Tryz.ntmps9
    go_wp2_with fail
    go_ret
    refine ⟨by rw [HN.out]; rfl, (Below.refl _ _).alloc (Nat.le_refl _) _⟩
set_option maxHeartbeats 400000 in
theorem theirs_any (D L G : Int) (w : World) :
    Calls Tryz.prog 8 #[PV D L G] w fun e w' => e = .returned (PV D L G) ∧ Below w.heap.size w w' := by
  go_enter Tryz.func8, Tryz.ntmps8
  go_wp2_with fail
  go_returns
  exact ⟨rfl, ((Below.refl _ _).alloc (Nat.le_refl _) _).alloc (by simp) _⟩
def pcI (D L G : Int) : Nat → Value := fun i => if i = 0 then I D else if i = 1 then I L else I G
theorem pcI_new (w : World) (D L G : Int) (t : TypeId) : Rd (w.alloc (.cells #[I D, I L, I G] t)) w.heap.size 0 3 (pcI D L G) := by
  intro i hi
  simp only [World.cell?, Nat.zero_add, Deep.blk_alloc_new]
  rcases (show i = 0 ∨ i = 1 ∨ i = 2 by omega) with rfl | rfl | rfl <;> simp [pcI]

end Go.Proofs.YtgelingkifafeaaGreatDoor

/- The matrix of a code: small laws. -/
namespace Go.Proofs.YtgelingkifafeaaGreatDoor
open Go.RowKit Go.Proofs Lin
set_option maxRecDepth 100000
set_option linter.unusedVariables false

/-- x / y of ints that are not below nought. -/
theorem div_run (a b : Nat) (hb : 0 < b) (ha : a < 2 ^ 62) (w : World) : (Op.intDiv .quo .i64 (a : Int) (b : Int)).run Tryz.prog w = .ok (I ((a / b : Nat) : Int)) w := by
  have h0 : ¬ ((b : Int) = 0) := by omega
  have hle : a / b ≤ a := Nat.div_le_self _ _
  have hw : IntKind.i64.wrap ((a / b : Nat) : Int) = ((a / b : Nat) : Int) := wraps_i64 _ (Int.natCast_nonneg _) (by generalize a / b = q at *; omega)
  show ((if (b : Int) = 0 then _ else pure (.int .i64 (IntKind.i64.wrap ((a : Int).tdiv (b : Int)))) : Sem Value)).run Tryz.prog w = _
  rw [if_neg h0, tdiv_nat, hw]
  rfl

/-- A row of noughts of which byte i is turned to 1. -/
theorem codeM_data {D L k : Nat} (hk : k < D) : (fun j => if j = k then (1 : UInt8) else 0) = codeM D L k := by
  funext j; unfold codeM; rw [if_pos hk]
  by_cases e : j = k
  · rw [if_pos e, if_pos e.symm]
  · rw [if_neg e, if_neg fun e' => e e'.symm]
theorem codeM_local {D L k j : Nat} (hd : D % L = 0) (hL : 1 ≤ L) (hD : 1 ≤ D) (hk : k < L) (hj : j < D) : (if k * (D / L) ≤ j ∧ j < k * (D / L) + D / L then (1 : UInt8) else 0) = codeM D L (D + k) j := by
  have e0 : codeM D L (D + k) j = if D + j / (D / L) = D + k then 1 else 0 := by unfold codeM; rw [if_neg (by omega), if_pos (by omega)]
  have hs : 0 < D / L := Nat.div_pos (Nat.le_of_dvd (by omega) (Nat.dvd_of_mod_eq_zero hd)) (by omega)
  have e : (k * (D / L) ≤ j ∧ j < k * (D / L) + D / L) ↔ D + j / (D / L) = D + k := by
    rw [Nat.add_left_cancel_iff, Nat.div_eq_iff hs]
    omega
  rw [e0]
  by_cases h : k * (D / L) ≤ j ∧ j < k * (D / L) + D / L
  · rw [if_pos h, if_pos (e.1 h)]
  · rw [if_neg h, if_neg fun h' => h (e.2 h')]
theorem codeM_global {D L k j : Nat} : Gf.inv (UInt8.ofNat ((D + k) ^^^ j)) = codeM D L (D + L + k) j := by
  unfold codeM
  rw [if_neg (by omega), if_neg (by omega), show D + L + k - L = D + k by omega]

section
variable {w wr w1 : World} {v : Value} {k W : Nat} {M : Mat} {β : Nat → Nat}
theorem Gm.vcFill (h : Gm w wr v k W M β) {ob : Obj} (hu1 : Upd (· = wr.heap.size) (wr.alloc ob) w1) : Vc w1 w.heap.size 49 v k (fun j => .slice (some ⟨β j, 0, none⟩) W W) :=
  (h.vc.alloc ob).kept hu1 fun t ht e => by have := (h.vc.lt t ht).2; omega
theorem Gm.szFill (h : Gm w wr v k W M β) {ob : Obj} (hu1 : Upd (· = wr.heap.size) (wr.alloc ob) w1) : w.heap.size ≤ w1.heap.size := by
  have h1 := h.below.size
  have h2 := hu1.size
  rw [Deep.nblk_alloc] at h2; omega
theorem Gm.mono {w0 : World} (h : Gm w wr v k W M β) (hb : Below w0.heap.size w0 w) : Gm w0 wr v k W M β := by
  have hs := hb.size
  refine ⟨hb.trans (h.below.mono hs), ⟨h.vc.1, ?_⟩, h.row, h.kd, fun j hj => Nat.le_trans hs (h.own j hj), h.up⟩
  rcases h.vc.2 with h0 | ⟨g, cap, cur, e1, e2, rest⟩
  · exact .inl h0
  · exact .inr ⟨g, cap, cur, e1, Nat.le_trans hs e2, rest⟩
theorem Doing.from {g n m : Nat} {x y : Nat → UInt8} (h : Row w g 0 n (bs x)) (e : ∀ j, j < m → y j = x j) : Doing w w g n m x y :=
  ⟨Upd.refl _ _, KdKept.refl _, rfl, h.congr fun j _ => by by_cases hj : j < m <;> simp [bs, hj, e]⟩
theorem Doing.rowTo {g n m : Nat} {x y : Nat → UInt8} (h : Doing w wr g n m x y) (e : ∀ j, m ≤ j → j < n → y j = x j) : Row wr g 0 n (bs y) :=
  h.row.congr fun j hj => by
    by_cases h1 : j < m
    · simp [bs, h1]
    · simp [bs, h1, e j (by omega) hj]
end

/-- The three numbers of params that lie in a block. -/
def pcells (D L G : Nat) : Nat → Value := fun i => if i = 0 then I D else if i = 1 then I L else I G

theorem pcells_new (w : World) (D L G : Nat) (t : TypeId) : Rd (w.alloc (.cells #[I D, I L, I G] t)) w.heap.size 0 3 (pcells D L G) := by
  intro i hi
  simp only [World.cell?, Nat.zero_add, Deep.blk_alloc_new]
  rcases (show i = 0 ∨ i = 1 ∨ i = 2 by omega) with rfl | rfl | rfl <;> simp [pcells]

/-- Behind the test of its params: the box of the params lies in block pb. -/
structure MatIn (w w1 : World) (D L G pb : Nat) : Prop where
  below : Below w.heap.size w w1
  par : Rd w1 pb 0 3 (pcells D L G)

theorem MatIn.mk' {w w1 : World} {D L G : Nat} {t : TypeId} (hb : Below (w.alloc (.cells #[I D, I L, I G] t)).heap.size (w.alloc (.cells #[I D, I L, I G] t)) w1) : MatIn w w1 D L G w.heap.size :=
  ⟨((Below.refl w.heap.size w).alloc (Nat.le_refl _) (.cells #[I D, I L, I G] t)).trans (hb.mono (by simp)), (pcells_new w D L G t).later hb⟩

end Go.Proofs.YtgelingkifafeaaGreatDoor

/- The program's code: New, Group. -/
namespace Go.Proofs.YtgelingkifafeaaGreatDoor
open Go.RowKit Go.Proofs Lin
set_option maxRecDepth 100000
set_option linter.unusedVariables false

/-- A code in the making, in block cb: k rows are there. -/
structure NewIn (w1 wr : World) (cb k D L G : Nat) (v : Value) (β : Nat → Nat) : Prop where
  gm : Gm w1 wr v k D (codeM D L) β
  own : w1.heap.size ≤ cb
  kd : Kd wr cb 124
  par : Row wr cb 0 3 (pcells D L G)
  at3 : Row wr cb 3 1 (fun _ => v)

namespace NewIn
variable {w1 wr w2 w3 : World} {cb k D L G : Nat} {v v3 : Value} {β : Nat → Nat}
theorem later (h : NewIn w1 wr cb k D L G v β) (hb : Below wr.heap.size wr w2) : NewIn w1 w2 cb k D L G v β :=
  ⟨h.gm.later hb, h.own, h.kd.later hb, h.par.later hb, h.at3.later hb⟩
theorem start (w : World) (D L G : Nat) : NewIn w (w.alloc (.cells #[I D, I L, I G, .slice none 0 0] 124)) w.heap.size 0 D L G (.slice none 0 0) (fun _ => 0) := by
  refine ⟨Gm.start ((Below.refl _ _).alloc (Nat.le_refl _) _), Nat.le_refl _, Kd.new _ _ _, ⟨fun i hi => ?_, fun i hi => ?_⟩, ⟨fun i hi => ?_, fun i hi => ?_⟩⟩
  · simp only [World.cell?, Nat.zero_add, Deep.blk_alloc_new]
    rcases (show i = 0 ∨ i = 1 ∨ i = 2 by omega) with rfl | rfl | rfl <;> simp [pcells]
  · simp only [World.frozen?, Deep.blk_alloc_new]; simp
  · obtain rfl : i = 0 := by omega
    simp only [World.cell?, Deep.blk_alloc_new]; simp
  · simp only [World.frozen?, Deep.blk_alloc_new]; simp
/-- What was turned is the new row alone. -/
theorem fill (h : NewIn w1 wr cb k D L G v β) {ob : Obj} (hu1 : Upd (· = wr.heap.size) (wr.alloc ob) w2) : Kd w2 cb 124 ∧ Row w2 cb 0 3 (pcells D L G) ∧ Row w2 cb 3 1 (fun _ => v) := by
  have hlt := h.kd.lt
  exact ⟨(h.kd.alloc ob).upd hu1 (by omega), (h.par.alloc ob).upd hu1 (fun _ => by omega), (h.at3.alloc ob).upd hu1 (fun _ => by omega)⟩
theorem app (h : NewIn w1 wr cb k D L G v β) {ob : Obj} (hu1 : Upd (· = wr.heap.size) (wr.alloc ob) w2) (hu : Upd (fun b => some b = v.ownBlock) w2 w3) :
    Kd w3 cb 124 ∧ Row w3 cb 0 3 (pcells D L G) ∧ Row w3 cb 3 1 (fun _ => v) := by
  obtain ⟨a, b, c⟩ := h.fill hu1
  have hne : ¬ some cb = v.ownBlock := fun e => (h.gm.vcFill hu1).block_ne a (by decide) cb e.symm rfl
  exact ⟨a.upd hu hne, b.upd hu (fun _ => hne), c.upd hu (fun _ => hne)⟩
theorem next (h : NewIn w1 wr cb k D L G v β) {ob : Obj} (hu1 : Upd (· = wr.heap.size) (wr.alloc ob) w2) (hr : Row w2 wr.heap.size 0 D (bs (codeM D L k))) (hk : Kd w2 wr.heap.size 5)
    (hv : Vc w3 w1.heap.size 49 v3 (k + 1) (fun i => if i < k then .slice (some ⟨β i, 0, none⟩) D D else .slice (some ⟨wr.heap.size, 0, none⟩) D D)) (hu : Upd (fun b => some b = v.ownBlock) w2 w3) :
    NewIn w1 (w3.setCell ⟨cb, 3, none⟩ v3) cb (k + 1) D L G v3 (fun j => if j < k then β j else wr.heap.size) := by
  obtain ⟨a, b, c⟩ := h.app hu1 hu
  refine ⟨(h.gm.next hu1 hr hk hv hu).kept (G := (· = cb)) ((Upd.refl (fun b => b = cb) w3).setCell (a := ⟨cb, 3, none⟩) (fun _ => rfl) v3) (fun t e => by subst e; exact h.own) (fun t e _ => by subst e; exact ⟨_, a, by decide, by decide⟩), h.own, a.set _ _, b.aside (.inr (by omega)) _, ?_⟩
  exact (c.set (i := 0) (by omega) v3).congr fun i hi => by simp; omega
end NewIn

set_option maxHeartbeats 400000 in
theorem group_any (cb D L G j s t : Nat) (hL : 1 ≤ L) (hD : D ≤ 12) (hs0 : 0 < s) (hs : s = D / L) (ht : t = j / s) (hj : j < 100) (w : World) (hp : Row w cb 0 3 (pcells D L G)) :
    Calls Tryz.prog 44 #[.pointer (some ⟨cb, 0, none⟩), I j] w fun e w' => e = .returned (I t) ∧ ∃ q, w' = w.drewN q := by
  have c0 : w.cell? ⟨cb, 0, none⟩ = some (I D) := hp.cell 0 (by omega)
  have c1 : w.cell? ⟨cb, 1, none⟩ = some (I L) := hp.cell 1 (by omega)
  have hle : s ≤ D := hs ▸ Nat.div_le_self _ _
  have hL0 : ¬ L = 0 := by omega
  have hL1 : ¬ (L : Int) = 0 := by omega
  have hs1 : ¬ s = 0 := by omega
  have hs2 : ¬ (s : Int) = 0 := by omega
  have hq : IntKind.i64.wrap ((D : Int).tdiv (L : Int)) = (s : Int) := by rw [tdiv_nat, ← hs]; exact wraps_i64 _ (by omega) (by omega)
  have hq2 : IntKind.i64.wrap ((j : Int).tdiv (s : Int)) = (t : Int) := by
    have : t ≤ j := ht ▸ Nat.div_le_self _ _
    rw [tdiv_nat, ← ht]; exact wraps_i64 _ (by omega) (by omega)
  have w64 : ∀ x : Int, wrap64 x = IntKind.i64.wrap x := fun x => by rw [IntKind.wrap_i64]; unfold wrap64; rfl
  have hq' : wrap64 ((D : Int) / (L : Int)) = (s : Int) := by rw [w64, ← Int.tdiv_eq_ediv_of_nonneg (by omega), hq]
  have hq3 : wrap64 ((j : Int) / (s : Int)) = (t : Int) := by rw [w64, ← Int.tdiv_eq_ediv_of_nonneg (by omega), hq2]
  have n3 : ¬ wrap64 ((D : Int) / (L : Int)) = 0 := by rw [hq']; omega
  have E : Ending.returned (.int .i64 (wrap64 ((j : Int) / wrap64 ((D : Int) / (L : Int))))) = .returned (I t) := by rw [hq', hq3]
  have HE := Lib.hid E
  clear w64 hq hq2 hq' hq3 E
  clear hp hs ht
  go_enter Tryz.func44, Tryz.ntmps44
  go_wp2_with fail
  go_quiet (fail)
  go_wp2_with fail
  go_ret
  exact ⟨HE.out, _, rfl⟩

def NewBad (w : World) (e : Ending) (w' : World) : Prop := e = .returned (.tuple #[.pointer none, .iface 34 (I 1)]) ∧ Below w.heap.size w w'

set_option maxHeartbeats 1000000 in
theorem new_bad (D L G : Int) (h : ¬ RightI D L G) (w : World) : Calls Tryz.prog 26 #[PV D L G] w (NewBad w) := by
  have hb0 : Below w.heap.size w (w.alloc (.cells #[I D, I L, I G] 23)) := (Below.refl _ _).alloc (Nat.le_refl _) _
  have HB := Lib.hid hb0
  clear hb0
  by_cases h1 : D < 1
  · clear h
    go_enter Tryz.func26, Tryz.ntmps26
    go_wp2_with fail
    go_returns
    exact ⟨rfl, HB.out⟩
  by_cases h2 : 12 < D
  · clear h
    go_enter Tryz.func26, Tryz.ntmps26
    go_wp2_with fail
    go_returns
    exact ⟨rfl, HB.out⟩
  by_cases h3 : L < 1
  · clear h
    go_enter Tryz.func26, Tryz.ntmps26
    go_wp2_with fail
    go_returns
    exact ⟨rfl, HB.out⟩
  by_cases h4 : 4 < L
  · clear h
    go_enter Tryz.func26, Tryz.ntmps26
    go_wp2_with fail
    go_returns
    exact ⟨rfl, HB.out⟩
  by_cases h5 : G < 0
  · clear h
    go_enter Tryz.func26, Tryz.ntmps26
    go_wp2_with fail
    go_returns
    exact ⟨rfl, HB.out⟩
  by_cases h6 : 4 < G
  · clear h
    go_enter Tryz.func26, Tryz.ntmps26
    go_wp2_with fail
    go_returns
    exact ⟨rfl, HB.out⟩
  have hL0 : L ≠ 0 := by omega
  by_cases h7 : D % L = 0
  · have h8 : 16 < D + L + G := by
      rcases Int.lt_or_le 16 (D + L + G) with h8 | h8
      · exact h8
      · exact absurd (rightI_of h1 h2 h3 h4 h5 h6 h7 h8) h
    clear h
    go_enter Tryz.func26, Tryz.ntmps26
    go_wp2_with (go_at_call 15; refine (shards_any D L G (by omega) _).mono ?_; rintro e w1 ⟨rfl, hb⟩; have HB2 := Lib.hid hb; clear hb)
    go_returns
    exact ⟨rfl, HB.out.trans (HB2.out.mono (by simp))⟩
  · clear h
    go_enter Tryz.func26, Tryz.ntmps26
    go_wp2_with fail
    go_returns
    exact ⟨rfl, HB.out⟩
end Go.Proofs.YtgelingkifafeaaGreatDoor

/- The program's New: the walk where the params are right. -/
namespace Go.Proofs.YtgelingkifafeaaGreatDoor
open Go.RowKit Go.Proofs Lin
set_option maxRecDepth 100000
set_option linter.unusedVariables false

theorem codeM_D {D L k j : Nat} (h : k < D) : codeM D L k j = if k = j then 1 else 0 := by unfold codeM; rw [if_pos h]
theorem codeM_L {D L k j : Nat} (h : ¬ k < D) (h' : k < D + L) : codeM D L k j = if D + j / (D / L) = k then 1 else 0 := by unfold codeM; rw [if_neg h, if_pos h']
theorem codeM_G {D L k j : Nat} (h : ¬ k < D) (h' : ¬ k < D + L) : codeM D L k j = Gf.inv (UInt8.ofNat ((k - L) ^^^ j)) := by unfold codeM; rw [if_neg h, if_neg h']

/-- A code, in block cb. -/
structure CodeAt (w wr : World) (cb D L G : Nat) (v : Value) (β : Nat → Nat) : Prop where
  below : Below w.heap.size w wr
  own : w.heap.size ≤ cb
  kd : Kd wr cb 124
  par : Row wr cb 0 3 (pcells D L G)
  at3 : Row wr cb 3 1 (fun _ => v)
  gm : Gm w wr v (D + L + G) D (codeM D L) β

theorem CodeAt.of {w w1 wr : World} {cb D L G : Nat} {v : Value} {β : Nat → Nat} (h : NewIn w1 wr cb (D + L + G) D L G v β) (hb : Below w.heap.size w w1) : CodeAt w wr cb D L G v β :=
  ⟨hb.trans (h.gm.below.mono hb.size), Nat.le_trans hb.size h.own, h.kd, h.par, h.at3, h.gm.mono hb⟩

set_option maxHeartbeats 2000000 in
theorem new_ok (D L G : Nat) (hR : Right D L G) (w : World) :
    Calls Tryz.prog 26 #[PV D L G] w fun e w' => ∃ cb v β, e = .returned (.tuple #[.pointer (some ⟨cb, 0, none⟩), .nilIface]) ∧ CodeAt w w' cb D L G v β := by
  have h1 := hR.d1; have h2 := hR.d2; have h3 := hR.l1; have h4 := hR.l2; have h5 := hR.g2; have h6 := hR.div; have h7 := hR.sum
  have h6' : (D : Int) % (L : Int) = 0 := by have : ((D % L : Nat) : Int) = 0 := by rw [h6]; rfl
                                             simpa using this
  have hs0 : 0 < D / L := Nat.div_pos (Nat.le_of_dvd (by omega) (Nat.dvd_of_mod_eq_zero h6)) (by omega)
  clear hR h6
  have hmb := make_bytes (D : Int) (by omega) (by omega)
  simp only [Int.toNat_natCast] at hmb
  have HP0 := Lib.hid (pcells_new w D L G 23)
  go_enter Tryz.func26, Tryz.ntmps26
  go_upto_region 3 with (go_at_call 15; refine (shards_any D L G (by omega) _).mono ?_; rintro e w1 ⟨rfl, hb⟩; have HB := Lib.hid hb; clear hb)
  have HP1 := Lib.hid (HP0.out.later HB.out)
  have HB1 := Lib.hid (((Below.refl w.heap.size w).alloc (Nat.le_refl _) (.cells #[I D, I L, I G] 23)).trans (HB.out.mono (by simp)))
  clear HB HP0
  have c0 : w1.cell? ⟨w.heap.size, 0, none⟩ = some (I D) := HP1.out 0 (by omega)
  have c1 : w1.cell? ⟨w.heap.size, 1, none⟩ = some (I L) := HP1.out 1 (by omega)
  have c2 : w1.cell? ⟨w.heap.size, 2, none⟩ = some (I G) := HP1.out 2 (by omega)
  have HN0 := Lib.hid (NewIn.start w1 D L G)
  have hcb : w.heap.size < w1.heap.size := Rd.lt HP1.out (by omega)
  clear hmb
  have hmb := make_bytes (D : Int) (by omega) (by omega)
  simp only [Int.toNat_natCast] at hmb
  go_wp2_with (go_at_call 15; refine (shards_any D L G (by omega) _).mono ?_; rintro e w2 ⟨rfl, hb⟩; have HN := Lib.hid (HN0.out.later hb); clear hb)
  clear HN0 c0 c1 c2
  go_loopg [55] (D + L + G) (fun g i w3 => ∃ (k : Nat) (v : Value) (β : Nat → Nat), g = D + L + G - k ∧ k ≤ D + L + G ∧ i = I k ∧ NewIn w1 w3 w1.heap.size k D L G v β)
  case atStart => exact ⟨0, _, _, rfl, by omega, rfl, HN.out⟩
  case round =>
    clear HN
    obtain ⟨k, v, β, rfl, hk, rfl, hN⟩ := hrel
    have HN := Lib.hid hN
    clear hN
    have HPw := Lib.hid (HP1.out.later HN.out.gm.below)
    have c0 : wr.cell? ⟨w.heap.size, 0, none⟩ = some (I D) := HPw.out 0 (by omega)
    by_cases hlt : k < D + L + G
    · have hdec : decide ((k : Int) < (D : Int) + (L : Int) + (G : Int)) = true := decide_eq_true (by omega)
      go_wp2_with fail
      obtain ⟨wo, rfl⟩ : ∃ wo, wo = wr := ⟨_, rfl⟩
      have hwo : w.heap.size < wo.heap.size := Rd.lt HPw.out (by omega)
      go_loopg [63] D (fun g i w3 => ∃ m : Nat, g = D - m ∧ m ≤ D ∧ i = I m ∧ Doing (wo.alloc (.cells (madeCells #[.int .u8 0] D) 5)) w3 wo.heap.size D m (fun _ => 0) (codeM D L k))
      case atStart => exact ⟨0, rfl, by omega, rfl, Doing.start ((Row.new wo (.int .u8 0) D 5).congr fun i _ => by simp [bs, B])⟩
      case round =>
        obtain ⟨m, rfl, hm, rfl, hd⟩ := hrel
        have HD := Lib.hid hd
        clear hd
        have HF := Lib.hid (HN.out.fill HD.out.upd)
        by_cases hlt2 : m < D
        · have HPr := Lib.hid ((HPw.out.alloc (.cells (madeCells #[.int .u8 0] D) 5)).upd HD.out.upd (fun _ => by omega))
          have c0' : wr.cell? ⟨w.heap.size, 0, none⟩ = some (I D) := HPr.out 0 (by omega)
          have c1' : wr.cell? ⟨w.heap.size, 1, none⟩ = some (I L) := HPr.out 1 (by omega)
          have d1 : wr.cell? ⟨wo.heap.size, m, none⟩ = some (.int .u8 0) := HD.out.cellAt hlt2
          have d2 : wr.frozen? ⟨wo.heap.size, m, none⟩ = false := HD.out.freeAt hlt2
          by_cases hkD : k < D
          · by_cases hkm : k = m
            · subst hkm
              have hb0 : ((k : Int) == (k : Int)) = true := by simp
              have HV := Lib.hid (show (1 : Int) = ((codeM D L k k).toNat : Int) by rw [codeM_D hkD, if_pos rfl]; rfl)
              go_wp2_with fail
              go_roundg (D - (k + 1))
              case measure => omega
              case rel => exact ⟨k + 1, rfl, by omega, by go_num, HD.out.next hlt2 HV.out⟩
            · have hb0 : ((k : Int) == (m : Int)) = false := by simp; omega
              have HV := Lib.hid (show codeM D L k m = 0 by rw [codeM_D hkD, if_neg hkm])
              go_wp2_with fail
              go_roundg (D - (m + 1))
              case measure => omega
              case rel => exact ⟨m + 1, rfl, by omega, by go_num, HD.out.skip fun _ => HV.out⟩
          · by_cases hkL : k < D + L
            · obtain ⟨s, hs⟩ : ∃ s, s = D / L := ⟨_, rfl⟩
              obtain ⟨t, ht⟩ : ∃ t, t = m / s := ⟨_, rfl⟩
              have HG := Lib.hid (fun q => group_any w1.heap.size D L G m s t h3 h2 (by omega) hs ht (by omega) (wr.drewN q) (HF.out.2.1.drewN q))
              have HV := Lib.hid (show codeM D L k m = if D + t = k then 1 else 0 by rw [codeM_L hkD hkL, ← hs, ← ht])
              have htm : t ≤ m := ht ▸ Nat.div_le_self _ _
              clear hs ht hs0
              have d1' : ∀ q, (wr.drewN q).cell? ⟨wo.heap.size, m, none⟩ = some (.int .u8 0) := fun _ => d1
              have d2' : ∀ q, (wr.drewN q).frozen? ⟨wo.heap.size, m, none⟩ = false := fun _ => d2
              by_cases htk : D + t = k
              · have hb0 : ((D : Int) + (t : Int) == (k : Int)) = true := by simp; omega
                have HV2 := Lib.hid (show (1 : Int) = ((codeM D L k m).toNat : Int) by rw [HV.out, if_pos htk]; rfl)
                go_wp2_with fail
                go_quiet ((go_at_call 44; exact Calls.quiet_of (HG.out _)))
                go_wp2_with fail
                go_roundg (D - (m + 1))
                case measure => omega
                case rel => exact ⟨m + 1, rfl, by omega, by go_num, (HD.out.drewN _).next hlt2 HV2.out⟩
              · have hb0 : ((D : Int) + (t : Int) == (k : Int)) = false := by simp; omega
                have HV2 := Lib.hid (show codeM D L k m = 0 by rw [HV.out, if_neg htk])
                go_wp2_with fail
                go_quiet ((go_at_call 44; exact Calls.quiet_of (HG.out _)))
                go_wp2_with fail
                go_roundg (D - (m + 1))
                case measure => omega
                case rel => exact ⟨m + 1, rfl, by omega, by go_num, (HD.out.drewN _).skip fun _ => HV2.out⟩
            · have hx0 := i64_xor_nat (k - L) m (by omega) (by omega)
              have hx : bits BinOp.xor IntKind.i64 ((k : Int) - (L : Int)) (m : Int) = (((k - L) ^^^ m : Nat) : Int) := by rw [← hx0, Int.ofNat_sub (by omega)]
              have hx1 : (k - L) ^^^ m < 2 ^ 5 := Nat.xor_lt_two_pow (by omega) (by omega)
              have HI := Lib.hid (codeM_G (j := m) hkD hkL)
              clear hx0
              generalize hy : (k - L) ^^^ m = y at *
              clear hy
              obtain ⟨z, hz⟩ : ∃ z : UInt8, z.toNat = y := ⟨UInt8.ofNat y, by rw [UInt8.toNat_ofNat', Nat.mod_eq_of_lt (by omega)]⟩
              subst hz
              have HI2 := Lib.hid (show Gf.inv z = codeM D L k m by have := HI.out; rw [UInt8.ofNat_toNat] at this; exact this.symm)
              go_wp2_with (go_at_call 45; refine (inv_any z _).mono ?_; rintro e w4 ⟨rfl, rfl⟩)
              go_roundg (D - (m + 1))
              case measure => omega
              case rel => exact ⟨m + 1, rfl, by omega, by go_num, HD.out.next hlt2 (by rw [HI2.out])⟩
        · obtain rfl : D = m := by omega
          have HW := Lib.hid (HD.out.rowTo (fun j h1 h2 => absurd h2 (by omega)))
          have HK := Lib.hid (HD.out.kd _ _ (Kd.new wo (madeCells #[.int .u8 0] D) 5))
          have HU := Lib.hid HD.out.upd
          have HV := Lib.hid (HN.out.gm.vcFill HU.out)
          have hsz := HN.out.gm.szFill HU.out
          have c3 : wr.cell? ⟨w1.heap.size, 3, none⟩ = some v := by have := HF.out.2.2.cell 0 (by omega); simpa using this
          go_wp2_with (refine wpList_append_one rfl (.tmp 112) (.tmp 114) 122 rfl w1.heap.size 49 (.slice none 0 0) 24 Tryz.underlying122 infoBs rfl v k _ rfl HV.out (.slice (some ⟨wo.heap.size, 0, none⟩) D D) _ rfl rfl (by omega) (by omega) hsz ?_; intro v3 w3 hv3 hu3; obtain ⟨va, vb, vc, rfl, hva, _⟩ := hv3.shape; obtain rfl := hva (by omega); have hA := HN.out.app HU.out hu3; have a1 := hA.2.2.cell 0 (by omega); have a2 := hA.2.2.free 0 (by omega); rw [Nat.add_zero] at a1 a2; clear hA; have HV3 := Lib.hid hv3; have HU3 := Lib.hid hu3; clear hv3 hu3)
          go_roundg (D + L + G - (k + 1))
          case measure => omega
          case rel => exact ⟨k + 1, _, _, rfl, by omega, by go_num, HN.out.next HU.out HW.out HK.out HV3.out HU3.out⟩
    · obtain rfl : k = D + L + G := by omega
      go_wp2_with fail
      go_returns
      exact ⟨_, _, _, rfl, CodeAt.of HN.out HB1.out⟩
end Go.Proofs.YtgelingkifafeaaGreatDoor

/- Sets of shards: Has, Whole. -/
namespace Go.Proofs.YtgelingkifafeaaGreatDoor
open Go.RowKit Go.Proofs Lin
set_option maxRecDepth 100000
set_option linter.unusedVariables false

/-- A uint64. -/
abbrev U (n : Nat) : Value := .int .u64 (n : Int)

theorem wraps_u64 (n : Int) (h₀ : 0 ≤ n) (h₁ : n < 2 ^ 64) : IntKind.u64.wrap n = n := by
  show n % 2 ^ 64 = n
  exact Int.emod_eq_of_lt h₀ h₁

theorem u64_and_nat (a b : Nat) (ha : a < 2 ^ 64) (hb : b < 2 ^ 64) : bits .and .u64 (a : Int) (b : Int) = ((a &&& b : Nat) : Int) :=
  (bits_nat .u64 64 (by decide) wraps_u64 a b ha hb).1

theorem has_spell (x i : Nat) (hx : x < 2 ^ 64) : (bits .and .u64 ((x : Int) / 2 ^ i) 1 == 1) = x.testBit i := by
  have e : (x : Int) / 2 ^ i = ((x / 2 ^ i : Nat) : Int) := by simp
  have hd : x / 2 ^ i ≤ x := Nat.div_le_self _ _
  rw [e, show (1 : Int) = ((1 : Nat) : Int) from rfl, u64_and_nat _ _ (by omega) (by omega), nat_mask1, Nat.testBit_eq_decide_div_mod_eq]
  by_cases h : x / 2 ^ i % 2 = 1
  · simp [h]
  · have : x / 2 ^ i % 2 = 0 := by omega
    simp [this]

set_option maxHeartbeats 400000 in
theorem has_any (x i : Nat) (hx : x < 2 ^ 64) (hi : i < 64) (w : World) :
    Calls Tryz.prog 80 #[U x, I i] w fun e w' => e = .returned (.bool (x.testBit i)) ∧ w' = w := by
  have HX := Lib.hid (has_spell x i hx)
  go_enter Tryz.func80, Tryz.ntmps80
  go_wp2_with fail
  go_ret
  exact ⟨by rw [← HX.out]; rfl, rfl⟩

set_option maxHeartbeats 400000 in
theorem refHas_any (x i : Nat) (hx : x < 2 ^ 64) (hi : i < 64) (w : World) :
    Calls Tryz.prog 24 #[U x, I i] w fun e w' => e = .returned (.bool (x.testBit i)) ∧ w' = w := by
  have HX := Lib.hid (has_spell x i hx)
  go_enter Tryz.func24, Tryz.ntmps24
  go_wp2_with fail
  go_ret
  exact ⟨by rw [← HX.out]; rfl, rfl⟩

end Go.Proofs.YtgelingkifafeaaGreatDoor

/- Scale. -/
namespace Go.Proofs.YtgelingkifafeaaGreatDoor
open Go.RowKit Go.Proofs
set_option maxRecDepth 100000
set_option linter.unusedVariables false

set_option maxHeartbeats 400000 in
theorem scale_any (g n c : Nat) (x : Nat → UInt8) (k : UInt8) (w : World) (hx : Row w g 0 n (bs x)) (hn : n ≤ 1000000) :
    Calls Tryz.prog 111 #[.slice (some ⟨g, 0, none⟩) n c, B k] w fun e w' => e = .returned (.tuple #[]) ∧ Done w w' g n (fun j => Gf.mul k (x j)) := by
  have HX := Lib.hid hx
  clear hx
  go_enter Tryz.func111, Tryz.ntmps111
  go_wp2_with fail
  go_loopw [8] (fun i wr => ∃ m : Nat, m ≤ n ∧ i = I m ∧ Doing w wr g n m x (fun j => Gf.mul k (x j))) (fun i _ => n - (intOf i).toNat)
  case atStart => exact ⟨0, by omega, rfl, Doing.start HX.out⟩
  case round =>
    obtain ⟨m, hm, rfl, hd⟩ := hrel
    have HD := Lib.hid hd
    clear hd
    by_cases hlt : m < n
    · have c1 := HD.out.cellAt hlt
      have f1 := HD.out.freeAt hlt
      go_wp2_with (go_at_call 64; refine (mul_any _ _ _).mono ?_; rintro e w1 ⟨rfl, rfl⟩)
      go_roundw
      case rel => exact ⟨m + 1, by omega, by go_num, HD.out.next hlt rfl⟩
      case measure => simp [intOf]; omega
    · go_wp2
      go_end0
      obtain rfl : m = n := by omega
      exact ⟨rfl, HD.out.done⟩

end Go.Proofs.YtgelingkifafeaaGreatDoor

/- Reduce and Rank of the program. -/
namespace Go.Proofs.YtgelingkifafeaaGreatDoor
open Go.RowKit Go.Proofs Lin
set_option maxRecDepth 100000
set_option linter.unusedVariables false

theorem Mx.congr {w : World} {g n W : Nat} {β : Nat → Nat} {M N : Nat → Nat → UInt8} (h : Mx w g n W β M) (e : ∀ i, i < n → ∀ j, j < W → M i j = N i j) : Mx w g n W β N :=
  ⟨h.outer, fun i hi => (h.rows i hi).congr fun j hj => by simp [bs, e i hi j hj], h.kd, h.inj, h.gk⟩
theorem Mx.drewN {w : World} {g n W : Nat} {β : Nat → Nat} {M : Nat → Nat → UInt8} (h : Mx w g n W β M) (q : Nat) : Mx (w.drewN q) g n W β M :=
  ⟨h.outer.drewN q, fun i hi => (h.rows i hi).drewN q, h.kd, h.inj, h.gk⟩
theorem Mx.upd {w w' : World} {G : Nat → Prop} {g n W : Nat} {β : Nat → Nat} {M : Nat → Nat → UInt8} (h : Mx w g n W β M) (hu : Upd G w w') (hg : ¬ G g) (hr : ∀ i, i < n → ¬ G (β i)) : Mx w' g n W β M :=
  ⟨h.outer.upd hu fun _ => hg, fun i hi => (h.rows i hi).upd hu fun _ => hr i hi, fun i hi => (h.kd i hi).upd hu (hr i hi), h.inj, h.gk.upd hu hg⟩

/-- Row p's block was turned. -/
theorem Mx.rowDone {w w' : World} {g n W p : Nat} {β : Nat → Nat} {M : Nat → Nat → UInt8} {y : Nat → UInt8} (h : Mx w g n W β M) (hp : p < n) (hd : Done w w' (β p) W y) :
    Mx w' g n W β (fun r => if r = p then y else M r) := by
  refine ⟨h.outer.upd hd.upd fun _ e => h.ne hp e.symm, fun i hi => ?_, fun i hi => hd.kd _ _ (h.kd i hi), h.inj, hd.kd _ _ h.gk⟩
  by_cases e : i = p
  · subst e; simp only [if_true]; exact hd.row
  · simp only [if_neg e]; exact (h.rows i hi).upd hd.upd fun _ e' => e (h.inj i p hi hp e')

def swp (i p : Nat) : Nat → Nat := fun r => if r = i then p else if r = p then i else r
def swapB (β : Nat → Nat) (i p : Nat) : Nat → Nat := fun r => β (swp i p r)
theorem swp_lt {n i p r : Nat} (hi : i < n) (hp : p < n) (hr : r < n) : swp i p r < n := by unfold swp; split <;> (try split) <;> omega
theorem swp_inj {i p j k : Nat} (e : swp i p j = swp i p k) : j = k := by
  unfold swp at e; split at e <;> split at e <;> (try split at e) <;> (try split at e) <;> omega
theorem swap_swp (M : Mat) (i p : Nat) : swap M i p = fun r => M (swp i p r) := by
  funext r; unfold swap swp; split
  · rfl
  · split <;> rfl

theorem Mx.swapped {w : World} {g n W i p : Nat} {β : Nat → Nat} {M : Nat → Nat → UInt8} (h : Mx w g n W β M) (hi : i < n) (hp : p < n) :
    Mx ((w.setCell ⟨g, i, none⟩ (.slice (some ⟨β p, 0, none⟩) W W)).setCell ⟨g, p, none⟩ (.slice (some ⟨β i, 0, none⟩) W W)) g n W (swapB β i p) (swap M i p) := by
  have h1 := (h.outer.set hi (.slice (some ⟨β p, 0, none⟩) W W)).set hp (.slice (some ⟨β i, 0, none⟩) W W)
  rw [Nat.zero_add, Nat.zero_add] at h1
  rw [swap_swp]
  refine ⟨h1.congr fun j _ => ?_, fun j hj => ?_, fun j hj => ?_, fun j k hj hk e => swp_inj (h.inj _ _ (swp_lt hi hp hj) (swp_lt hi hp hk) e), (h.gk.set _ _).set _ _⟩
  · unfold swapB swp
    by_cases e1 : j = p
    · subst e1
      by_cases e2 : j = i
      · subst e2; simp
      · simp [e2]
    · by_cases e2 : j = i
      · subst e2; simp [e1]
      · simp [e1, e2]
  · have hk := swp_lt hi hp hj
    exact ((h.rows _ hk).other (a := ⟨g, i, none⟩) (Ne.symm (h.ne hk)) _).other (a := ⟨g, p, none⟩) (Ne.symm (h.ne hk)) _
  · exact ((h.kd _ (swp_lt hi hp hj)).set _ _).set _ _

theorem Mx.scaled {w w' : World} {g n W p : Nat} {β : Nat → Nat} {M : Nat → Nat → UInt8} {k : UInt8} (h : Mx w g n W β M) (hp : p < n) (hd : Done w w' (β p) W (fun j => Gf.mul k (M p j))) :
    Mx w' g n W β (scale M p k) := by
  refine (h.rowDone hp hd).congr fun i _ j _ => ?_
  unfold scale
  by_cases e : i = p <;> simp [e]

/-- Of the rows below j, row p was taken away. -/
def upTo (M : Mat) (p : Nat) (k : Nat → UInt8) (j : Nat) : Mat := elim M j p k

theorem upTo_next {M : Mat} {p r i x W : Nat} {k : Nat → UInt8} (hrp : r ≠ p) (hx : x < W) :
    (if i = r then (fun x => if x < W then upTo M p k r r x ^^^ Gf.mul (k r) (upTo M p k r p x) else upTo M p k r r x) else upTo M p k r i) x = upTo M p k (r + 1) i x := by
  unfold upTo elim
  by_cases e : i = r
  · subst e
    simp [hx, hrp]
  · simp only [if_neg e]
    by_cases e1 : i ≠ p ∧ i < r
    · rw [if_pos e1, if_pos ⟨e1.1, by omega⟩]
    · rw [if_neg e1, if_neg (by omega)]

theorem upTo_at (M : Mat) (p : Nat) (k : Nat → UInt8) (r : Nat) : upTo M p k r r = M r := by simp [upTo, elim]
theorem upTo_p (M : Mat) (p : Nat) (k : Nat → UInt8) (r : Nat) : upTo M p k r p = M p := by simp [upTo, elim]

/-- While Reduce goes on: c columns are done. -/
structure Reducing (w wr : World) (g n W : Nat) (β0 β : Nat → Nat) (v : Value) (s : Mat × List Nat) : Prop where
  mx : Mx wr g n W β s.1
  perm : ∀ i, i < n → ∃ j, j < n ∧ β i = β0 j
  upd : Upd (fun b => b = g ∨ ∃ j, j < n ∧ b = β0 j) w wr
  piv : Vc wr w.heap.size 3 v s.2.length (fun i => I (s.2.getD i 0 : Nat))

theorem swap_p (R : Mat) (r p c : Nat) : swap R r p p c = R r c := by
  unfold swap; split
  · rename_i e; rw [e]
  · rw [if_pos rfl]

namespace Reducing
variable {w wr w' : World} {g n W : Nat} {β0 β : Nat → Nat} {v : Value} {R N : Mat} {piv : List Nat}

theorem congr (h : Reducing w wr g n W β0 β v (R, piv)) (e : ∀ i, i < n → ∀ j, j < W → R i j = N i j) : Reducing w wr g n W β0 β v (N, piv) :=
  ⟨h.mx.congr e, h.perm, h.upd, h.piv⟩
theorem drewN (h : Reducing w wr g n W β0 β v (R, piv)) (q : Nat) : Reducing w (wr.drewN q) g n W β0 β v (R, piv) :=
  ⟨h.mx.drewN q, h.perm, h.upd.drewN q, h.piv.drewN q⟩
theorem rowDone {p : Nat} {y : Nat → UInt8} (h : Reducing w wr g n W β0 β v (R, piv)) (hp : p < n) (hd : Done wr w' (β p) W y) :
    Reducing w w' g n W β0 β v (fun r => if r = p then y else R r, piv) := by
  refine ⟨h.mx.rowDone hp hd, h.perm, h.upd.trans hd.upd fun b e _ => ?_, h.piv.kept hd.upd fun k hk => h.piv.block_ne (h.mx.kd p hp) (by decide) k hk⟩
  obtain ⟨j, hj, e2⟩ := h.perm p hp
  exact .inr ⟨j, hj, by rw [e, e2]⟩
theorem swapped {i p : Nat} (h : Reducing w wr g n W β0 β v (R, piv)) (hi : i < n) (hp : p < n) :
    Reducing w ((wr.setCell ⟨g, i, none⟩ (.slice (some ⟨β p, 0, none⟩) W W)).setCell ⟨g, p, none⟩ (.slice (some ⟨β i, 0, none⟩) W W)) g n W β0 (swapB β i p) v (swap R i p, piv) := by
  refine ⟨h.mx.swapped hi hp, fun j hj => h.perm _ (swp_lt hi hp hj), (h.upd.setCell (a := ⟨g, i, none⟩) (fun _ => .inl rfl) _).setCell (a := ⟨g, p, none⟩) (fun _ => .inl rfl) _, ?_⟩
  have hu : Upd (· = g) wr ((wr.setCell ⟨g, i, none⟩ (.slice (some ⟨β p, 0, none⟩) W W)).setCell ⟨g, p, none⟩ (.slice (some ⟨β i, 0, none⟩) W W)) :=
    ((Upd.refl (· = g) wr).setCell (a := ⟨g, i, none⟩) (fun _ => rfl) _).setCell (a := ⟨g, p, none⟩) (fun _ => rfl) _
  exact h.piv.kept hu fun k hk => h.piv.block_ne h.mx.gk (by decide) k hk
theorem appended {c : Nat} {v2 : Value} (h : Reducing w wr g n W β0 β v (R, piv)) (hv : Vc w' w.heap.size 3 v2 (piv.length + 1) (fun i => if i < piv.length then I (piv.getD i 0 : Nat) else I (c : Int)))
    (hu : Upd (fun b => some b = v.ownBlock) wr w') : Reducing w w' g n W β0 β v2 (R, piv ++ [c]) := by
  refine ⟨h.mx.upd hu (fun e => h.piv.block_ne h.mx.gk (by decide) g e.symm rfl) fun i hi e => h.piv.block_ne (h.mx.kd i hi) (by decide) _ e.symm rfl, h.perm, h.upd.trans hu fun b e hb => ?_, ?_⟩
  · have := (h.piv.lt b e.symm).1; omega
  · rw [show (piv ++ [c]).length = piv.length + 1 by simp]
    refine hv.congr fun i hi => ?_
    by_cases e : i < piv.length
    · simp [e, List.getElem?_append_left e]
    · obtain rfl : i = piv.length := by omega
      simp
end Reducing

theorem inv_still (x : UInt8) (w : World) : Calls Tryz.prog 45 #[B x] w fun e w' => e = .returned (B (Gf.inv x)) ∧ w' = w :=
  (inv_any x w).mono fun _ _ ⟨h1, h2⟩ => ⟨h1, h2.symm⟩

theorem infoInt : (Tryz.prog.info? 3).map (fun i => (i.zero, i.size, i.bytes)) = some (some (.int .i64 0), 1, 8) := by kernel_rfl

theorem firstFrom_eq_none {q : Nat → Bool} {p m : Nat} (h : ∀ k, p ≤ k → k < p + m → q k = false) : firstFrom q p m = none := by
  induction m generalizing p with
  | zero => rfl
  | succ m ih =>
    simp only [firstFrom]
    rw [if_neg (by rw [h p (by omega) (by omega)]; decide)]
    exact ih fun k h1 h2 => h k (by omega) (by omega)
theorem firstFrom_eq_some {q : Nat → Bool} {p m i : Nat} (h1 : p ≤ i) (h2 : i < p + m) (h3 : q i = true) (h : ∀ k, p ≤ k → k < i → q k = false) : firstFrom q p m = some i := by
  induction m generalizing p with
  | zero => omega
  | succ m ih =>
    simp only [firstFrom]
    by_cases e : p = i
    · subst e; rw [if_pos h3]
    · rw [if_neg (by rw [h p (by omega) (by omega)]; decide)]
      exact ih (by omega) (by omega) fun k h1 h2 => h k (by omega) h2

theorem redStep_none {n c : Nat} {R : Mat} {piv : List Nat} (hle : piv.length ≤ n) (h : ∀ q, piv.length ≤ q → q < n → R q c = 0) : redStep n c (R, piv) = (R, piv) := by
  unfold redStep
  simp only
  rw [firstFrom_eq_none fun k h1 h2 => by rw [h k h1 (by omega)]; rfl]
theorem redStep_some {n c i : Nat} {R : Mat} {piv : List Nat} (h1 : piv.length ≤ i) (h2 : i < n) (h3 : R i c ≠ 0) (h : ∀ q, piv.length ≤ q → q < i → R q c = 0) :
    redStep n c (R, piv) = (upTo (scale (swap R i piv.length) piv.length (Gf.inv (R i c))) piv.length (fun r => scale (swap R i piv.length) piv.length (Gf.inv (R i c)) r c) n, piv ++ [c]) := by
  unfold redStep
  simp only
  rw [firstFrom_eq_some (i := i) h1 (by omega) (by simpa using h3) fun k hk hk' => by rw [h k hk hk']; rfl]
  have e : swap R i piv.length piv.length c = R i c := by
    unfold swap; split
    · rename_i e; rw [e]
    · simp
  simp only [e]
  rfl

set_option maxHeartbeats 1000000 in
theorem reduce_any (g n W C cap : Nat) (β0 : Nat → Nat) (M : Mat) (w : World) (hm : Mx w g n W β0 M) (hn : n ≤ 1000000) (hW : W < 100) (hC : C ≤ W) :
    Calls Tryz.prog 103 #[.slice (some ⟨g, 0, none⟩) n cap, I (C : Int)] w fun e w' => ∃ v β, e = .returned v ∧ Reducing w w' g n W β0 β v (reduce n M C) := by
  have HM := Lib.hid hm
  clear hm
  go_enter Tryz.func103, Tryz.ntmps103
  go_wp2_with fail
  go_step3
  go_wp2_with fail
  go_step3
  go_wp2_with fail
  go_loopg [5, 11] C (fun k v i wr => ∃ (c : Nat) (β : Nat → Nat), k = C - c ∧ c ≤ C ∧ i = I c ∧ Reducing w wr g n W β0 β v (reduce n M c))
  case atStart => exact ⟨0, β0, rfl, by omega, rfl, HM.out, fun i hi => ⟨i, hi, rfl⟩, Upd.refl _ _, Vc.nil _ _ _ _⟩
  case round =>
    obtain ⟨c, β, rfl, hc, rfl, hR⟩ := hrel
    obtain ⟨va, vb, vc, rfl, hva, hvr, hvc, hvk, _⟩ := hR.piv.shape
    have HR := Lib.hid hR
    clear hR hva hvr hvk
    have hle : (reduce n M c).2.length ≤ n := (reduced n M c).ech.le
    have hstep := Lib.hid (show reduce n M (c + 1) = redStep n c (reduce n M c) from rfl)
    generalize hs : reduce n M c = s at *
    have HS0 := Lib.hid hs
    clear hs
    obtain ⟨R, piv⟩ := s
    simp only at hle
    by_cases hlt : c < C
    · go_wp2_with fail
      go_loopg [5, 7] (n - piv.length) (fun k v i w2 => ∃ r : Nat, k = n - r ∧ piv.length ≤ r ∧ r ≤ n ∧ i = I r ∧ v = .slice va piv.length vc ∧ w2 = wr ∧ ∀ q, piv.length ≤ q → q < r → R q c = 0)
      case atStart => exact ⟨piv.length, rfl, by omega, hle, rfl, rfl, rfl, fun q h1 h2 => by omega⟩
      case round =>
        obtain ⟨r, rfl, hr1, hr2, rfl, rfl, rfl, hz⟩ := hrel
        have HZ := Lib.hid hz
        clear hz
        by_cases hrn : r < n
        · have c1 : wr.cell? ⟨g, r, none⟩ = some (.slice (some ⟨β r, 0, none⟩) W W) := by have := HR.out.mx.outer.cell r hrn; simpa using this
          have c2 : wr.cell? ⟨β r, c, none⟩ = some (B (R r c)) := by have := (HR.out.mx.rows r hrn).cell c (by omega); simpa using this
          by_cases hzero : R r c = 0
          · have ez : ((R r c).toNat : Int) = 0 := by rw [hzero]; rfl
            have HZZ := Lib.hid hzero
            clear hzero
            go_wp2_with fail
            go_roundg (n - (r + 1))
            case measure => omega
            case rel =>
              exact ⟨r + 1, rfl, by omega, by omega, by go_num, rfl, rfl, fun q h1 h2 => by
                by_cases e : q = r
                · subst e; exact HZZ.out
                · exact HZ.out q h1 (by omega)⟩
          · have ez : ((R r c).toNat : Int) ≠ 0 := fun e => hzero (UInt8.toNat.inj (by simpa using e))
            have hpn : piv.length < n := by omega
            have c3 : wr.cell? ⟨g, piv.length, none⟩ = some (.slice (some ⟨β piv.length, 0, none⟩) W W) := by have := HR.out.mx.outer.cell _ hpn; simpa using this
            have f1 : wr.frozen? ⟨g, r, none⟩ = false := by have := HR.out.mx.outer.free r hrn; simpa using this
            have f3 : wr.frozen? ⟨g, piv.length, none⟩ = false := by have := HR.out.mx.outer.free _ hpn; simpa using this
            obtain ⟨x1, hx1⟩ := cell?_setCell_some (w := wr) (p := ⟨g, r, none⟩) (x := .slice (some ⟨β piv.length, 0, none⟩) W W) (q := ⟨g, piv.length, none⟩) (v := .slice (some ⟨β piv.length, 0, none⟩) W W) c3
            go_wp2_with fail
            go_region
            obtain ⟨w3, hw3⟩ : ∃ w3, w3 = ((wr.setCell ⟨g, r, none⟩ (.slice (some ⟨β piv.length, 0, none⟩) W W)).setCell ⟨g, piv.length, none⟩ (.slice (some ⟨β r, 0, none⟩) W W)).drew := ⟨_, rfl⟩
            rw [← hw3]
            have H3 := Lib.hid (show Reducing w w3 g n W β0 (swapB β r piv.length) (.slice va piv.length vc) (swap R r piv.length, piv) from hw3 ▸ (HR.out.swapped hrn hpn).drewN 1)
            have hpc := Lib.hid (swap_p R r piv.length c)
            have hcW : c < W := by omega
            have HS := Lib.hid (hstep.out.trans (redStep_some hr1 hrn hzero HZ.out))
            clear hw3 c1 c2 c3 f1 f3 hx1 ez hstep HR HZ hzero
            generalize swapB β r piv.length = β1 at *
            generalize swap R r piv.length = M1 at *
            have c1 : w3.cell? ⟨g, piv.length, none⟩ = some (.slice (some ⟨β1 piv.length, 0, none⟩) W W) := by have := H3.out.mx.outer.cell _ hpn; simpa using this
            have c2 : w3.cell? ⟨β1 piv.length, c, none⟩ = some (B (M1 piv.length c)) := by have := (H3.out.mx.rows _ hpn).cell c (by omega); simpa using this
            go_wp2_with fail
            go_still_tail 12, mixed
            still_call (inv_still _ _)
            refine wpStill_nil ?_
            change wpList _ _ _ _ _ (w3.drewN 1)
            have hrp := Lib.hid (H3.out.mx.rows _ hpn)
            go_wp2_with (go_at_call 111; refine (scale_any (β1 piv.length) W W (M1 piv.length) _ _ (hrp.out.drewN 1) (by omega)).mono ?_; rintro e w4 ⟨rfl, hd⟩; have H4 := Lib.hid (((H3.out.drewN 1).rowDone hpn hd).congr (N := scale M1 piv.length (Gf.inv (M1 piv.length c))) fun i _ j _ => by unfold scale; by_cases e : i = piv.length <;> simp [e]); clear hd)
            rw [hpc.out] at H4
            clear c1 c2 hrp H3
            generalize scale M1 piv.length (Gf.inv (R r c)) = M2 at *
            go_loopg [61] n (fun k i w5 => ∃ j : Nat, k = n - j ∧ j ≤ n ∧ i = I j ∧ Reducing w w5 g n W β0 β1 (.slice va piv.length vc) (upTo M2 piv.length (fun r => M2 r c) j, piv))
            case atStart => exact ⟨0, rfl, by omega, rfl, H4.out.congr fun i _ j _ => by simp [upTo, elim]⟩
            case round =>
              obtain ⟨j, rfl, hj, rfl, h5⟩ := hrel
              have H5 := Lib.hid h5
              clear h5 H4
              by_cases hjn : j < n
              · by_cases hjp : j = piv.length
                · have ejp : ((j : Int) != (piv.length : Int)) = false := by rw [hjp]; simp
                  have HJ := Lib.hid hjp
                  clear hjp
                  go_wp2_with fail
                  go_roundg (n - (j + 1))
                  case measure => omega
                  case rel => exact ⟨j + 1, rfl, by omega, by go_num, H5.out.congr fun i _ x _ => by
                    rw [HJ.out]; unfold upTo elim
                    by_cases e : i ≠ piv.length ∧ i < piv.length
                    · rw [if_pos e, if_pos ⟨e.1, by omega⟩]
                    · rw [if_neg e, if_neg (by omega)]⟩
                · have ejp : ((j : Int) != (piv.length : Int)) = true := by rw [bne_iff_ne]; omega
                  have HJ := Lib.hid hjp
                  clear hjp
                  have c1 : wr.cell? ⟨g, piv.length, none⟩ = some (.slice (some ⟨β1 piv.length, 0, none⟩) W W) := by have := H5.out.mx.outer.cell _ hpn; simpa using this
                  have c2 : wr.cell? ⟨g, j, none⟩ = some (.slice (some ⟨β1 j, 0, none⟩) W W) := by have := H5.out.mx.outer.cell _ hjn; simpa using this
                  have c3 : wr.cell? ⟨β1 j, c, none⟩ = some (B (M2 j c)) := by have := (H5.out.mx.rows _ hjn).cell c hcW; simp only [bs, upTo_at, Nat.zero_add] at this; exact this
                  have hcall := Lib.hid (addTo_short (some ⟨β1 piv.length, 0, none⟩) (β1 j) W W (β1 piv.length) 0 W W _ _ (M2 j c) (wr.drewN 1) ((H5.out.mx.rows _ hjn).drewN 1) (fun _ => rfl) ((H5.out.mx.rows _ hpn).rd.drewN 1) (fun _ e => HJ.out (H5.out.mx.inj _ _ hjn hpn e.symm)) (Nat.le_refl _) (by omega) hW)
                  go_wp2_with fail
                  go_still_tail 15, mixed
                  change wpList _ _ _ _ _ (wr.drewN 1)
                  go_wp2_with (go_at_call 101; refine hcall.out.mono ?_; rintro e w6 ⟨rfl, hd⟩; have H6 := Lib.hid (((H5.out.drewN 1).rowDone hjn hd).congr (N := upTo M2 piv.length (fun r => M2 r c) (j + 1)) fun i _ x hx => upTo_next HJ.out hx); clear hd)
                  go_roundg (n - (j + 1))
                  case measure => omega
                  case rel => exact ⟨j + 1, rfl, by omega, by go_num, H6.out⟩
              · obtain rfl : j = n := by omega
                have hsz : w.heap.size ≤ wr.heap.size := H5.out.upd.size
                have hpl : piv.length ≤ 1000000 := by omega
                go_wp2_with (refine wpList_append_one rfl (.tmp 84) (.tmp 86) 117 rfl w.heap.size 3 (.int .i64 0) 8 Tryz.underlying117 infoInt rfl _ piv.length _ rfl H5.out.piv (I (c : Int)) _ rfl rfl (by omega) (by omega) hsz ?_; intro v2 w6 hv2 hu2; have H6 := Lib.hid (H5.out.appended hv2 hu2); clear hv2 hu2)
                go_roundg (C - (c + 1))
                case measure => omega
                case rel => exact ⟨c + 1, β1, rfl, by omega, by go_num, by rw [HS.out]; exact H6.out⟩
        · go_wp2_with fail
          go_roundg (C - (c + 1))
          case measure => omega
          case rel =>
            refine ⟨c + 1, β, rfl, by omega, by go_num, ?_⟩
            rw [hstep.out, redStep_none hle fun q h1 h2 => HZ.out q h1 (by omega)]
            exact HR.out
    · go_wp2_with fail
      go_ret
      obtain rfl : c = C := by omega
      exact ⟨_, β, rfl, by rw [HS0.out]; exact HR.out⟩
end Go.Proofs.YtgelingkifafeaaGreatDoor

/- Clone. -/
namespace Go.Proofs.YtgelingkifafeaaGreatDoor
open Go.RowKit Go.Proofs
set_option maxRecDepth 100000
set_option linter.unusedVariables false

/-- While Clone goes on: k rows are made. -/
structure Cloning (w wr : World) (n W k : Nat) (S : Nat → Sl) : Prop where
  below : Below w.heap.size w wr
  size : wr.heap.size = w.heap.size + 1 + k
  outer : Row wr w.heap.size 0 n (fun i => if i < k then .slice (some ⟨w.heap.size + 1 + i, 0, none⟩) W W else .slice none 0 0)
  rows : ∀ i, i < k → Row wr (w.heap.size + 1 + i) 0 W (bs (padX (S i)))
  kd : ∀ i, i < k → Kd wr (w.heap.size + 1 + i) 5
  gk : Kd wr w.heap.size 49

theorem Cloning.start (w : World) (n W : Nat) (S : Nat → Sl) : Cloning w (w.alloc (.cells (madeCells #[.slice none 0 0] n) 49)) n W 0 S :=
  ⟨(Below.refl _ _).alloc (Nat.le_refl _) _, by rw [Deep.nblk_alloc], (Row.new w _ n _).congr fun i _ => by simp, fun i hi => absurd hi (by omega), fun i hi => absurd hi (by omega), Kd.new _ _ _⟩

theorem Cloning.next {w wr w2 : World} {n W k : Nat} {S : Nat → Sl} (h : Cloning w wr n W k S) (hk : k < n) (hL : (S k).n ≤ W)
    (hu : Upd (· = wr.heap.size) ((wr.alloc (.cells (madeCells #[.int .u8 0] W) 5)).setCell ⟨w.heap.size, k, none⟩ (.slice (some ⟨wr.heap.size, 0, none⟩) W W)) w2)
    (hz : w2.heap.size = ((wr.alloc (.cells (madeCells #[.int .u8 0] W) 5)).setCell ⟨w.heap.size, k, none⟩ (.slice (some ⟨wr.heap.size, 0, none⟩) W W)).heap.size)
    (hkd : KdKept ((wr.alloc (.cells (madeCells #[.int .u8 0] W) 5)).setCell ⟨w.heap.size, k, none⟩ (.slice (some ⟨wr.heap.size, 0, none⟩) W W)) w2)
    (hr : Row w2 wr.heap.size 0 W (fun i => if i < (S k).n then bs (S k).x i else .int .u8 0)) : Cloning w w2 n W (k + 1) S := by
  have e : wr.heap.size = w.heap.size + 1 + k := h.size
  have hnew : Kd (wr.alloc (.cells (madeCells #[.int .u8 0] W) 5)) wr.heap.size 5 := Kd.new _ _ _
  rw [e] at hu hz hkd hr hnew
  refine ⟨?_, ?_, ?_, fun i hi => ?_, fun i hi => ?_, ?_⟩
  · have h1 : Below w.heap.size w ((wr.alloc (.cells (madeCells #[.int .u8 0] W) 5)).setCell ⟨w.heap.size, k, none⟩ (.slice (some ⟨w.heap.size + 1 + k, 0, none⟩) W W)) :=
      (h.below.alloc (by omega) _).setCell (Nat.le_refl _) _
    exact Below.upd h1 hu (fun b hb => by omega) (by rw [Deep.nblk_setCell, Deep.nblk_alloc]; omega)
  · rw [hz, Deep.nblk_setCell, Deep.nblk_alloc]; omega
  · have h1 := (h.outer.alloc (.cells (madeCells #[.int .u8 0] W) 5)).set hk (.slice (some ⟨w.heap.size + 1 + k, 0, none⟩) W W)
    rw [Nat.zero_add] at h1
    refine (h1.upd hu fun _ => by omega).congr fun i hi => ?_
    by_cases e1 : i = k
    · subst e1; simp
    · by_cases e2 : i < k
      · simp [e1, e2, show i < k + 1 by omega]
      · simp [e1, e2, show ¬ i < k + 1 by omega]
  · by_cases e1 : i = k
    · subst e1
      refine hr.congr fun j _ => ?_
      by_cases e2 : j < (S i).n <;> simp [bs, B, padX, e2]
    · have h1 := (h.rows i (by omega)).alloc (.cells (madeCells #[.int .u8 0] W) 5)
      exact (h1.other (a := ⟨w.heap.size, k, none⟩) (by show w.heap.size ≠ _; omega) _).upd hu fun _ => by omega
  · by_cases e1 : i = k
    · subst e1
      exact hkd _ _ (hnew.set _ _)
    · exact hkd _ _ (((h.kd i (by omega)).alloc _).set _ _)
  · exact hkd _ _ ((h.gk.alloc _).set _ _)

theorem Cloning.done {w wr : World} {n W : Nat} {S : Nat → Sl} (h : Cloning w wr n W n S) : Mx wr w.heap.size n W (fun i => w.heap.size + 1 + i) (fun i => padX (S i)) :=
  ⟨h.outer.congr fun i hi => by simp [hi], h.rows, h.kd, fun i j _ _ e => by omega, h.gk⟩

set_option maxHeartbeats 400000 in
theorem clone_any (a : Option Addr) (b o n c W : Nat) (S : Nat → Sl) (w : World) (ha : 0 < n → a = some ⟨b, o, none⟩)
    (hout : Rd w b o n (fun i => (S i).v)) (hok : ∀ i, i < n → (S i).ok w) (hL : ∀ i, i < n → (S i).n ≤ W) (hn : n ≤ 1000000) (hW : W ≤ 1000000) :
    Calls Tryz.prog 102 #[.slice a n c, I (W : Int)] w fun e w' => e = .returned (.slice (some ⟨w.heap.size, 0, none⟩) n n) ∧ Cloning w w' n W n S := by
  have HO := Lib.hid hout
  have HK := Lib.hid hok
  have HL := Lib.hid hL
  clear hout hok hL
  have hmk := make_rows (n : Int) (by omega) (by omega)
  have hmb := make_bytes (W : Int) (by omega) (by omega)
  simp only [Int.toNat_natCast] at hmk hmb
  go_enter Tryz.func102, Tryz.ntmps102
  go_wp2
  go_loopw [13] (fun i wr => ∃ k : Nat, k ≤ n ∧ i = I k ∧ Cloning w wr n W k S) (fun i _ => n - (intOf i).toNat)
  case atStart => exact ⟨0, by omega, rfl, Cloning.start _ _ _ _⟩
  case round =>
    obtain ⟨k, hk, rfl, hcl⟩ := hrel
    have HC := Lib.hid hcl
    clear hcl
    by_cases hlt : k < n
    · obtain rfl := ha (by omega)
      have c1 : wr.cell? ⟨b, o + k, none⟩ = some (.slice (S k).a (S k).n (S k).c) := (HO.out.later HC.out.below) k hlt
      have c2 : ∀ ob, (wr.alloc ob).cell? ⟨w.heap.size, k, none⟩ = some (.slice none 0 0) := fun ob => by
        have := (HC.out.outer.alloc ob).cell k hlt
        simpa using this
      have f2 : ∀ ob, (wr.alloc ob).frozen? ⟨w.heap.size, k, none⟩ = false := fun ob => by
        have := (HC.out.outer.alloc ob).free k hlt
        simpa using this
      have hLk := HL.out k hlt
      have hok := Lib.hid (HK.out k hlt)
      have hsz : 0 < n → w.heap.size < wr.heap.size := fun _ => by have := HC.out.size; omega
      go_wp2_with (refine wpList_copy_fn rfl (.tmp 26) (.tmp 27) 49 49 rfl 5 Tryz.underlying49 sizeU8 _ _ _ _ _ _ rfl rfl (S k).n wr.heap.size 0 W (S k).b (S k).o (fun _ => .int .u8 0) (bs (S k).x) (by show (S k).n = min (S k).n W; omega) hLk ((Row.new _ _ _ _).other (by show w.heap.size ≠ wr.heap.size; have := hsz (by omega); omega) _) (((hok.out.rd.later HC.out.below).alloc _).other (fun h0 => by show w.heap.size ≠ _; have := hok.out.rd.lt h0; omega) _) (fun _ => rfl) hok.out.addr (fun _ _ => rfl) ?_; intro w2 hu2 hz2 hk2 hr2; have HN := Lib.hid (HC.out.next hlt hLk hu2 hz2 hk2 hr2); clear hu2 hz2 hk2 hr2)
      go_roundw
      case rel => exact ⟨k + 1, by omega, by go_num, HN.out⟩
      case measure => simp [intOf]; omega
    · go_wp2
      go_ret
      obtain rfl : k = n := by omega
      exact ⟨rfl, HC.out⟩

end Go.Proofs.YtgelingkifafeaaGreatDoor

/- The program's Rank. -/
namespace Go.Proofs.YtgelingkifafeaaGreatDoor
open Go.RowKit Go.Proofs Lin
set_option maxRecDepth 100000
set_option linter.unusedVariables false

/-- The longest of the first k rows. -/
def wid (S : Nat → Sl) : Nat → Nat
  | 0 => 0
  | k + 1 => Nat.max (wid S k) (S k).n
theorem wid_le (S : Nat → Sl) {i k : Nat} (h : i < k) : (S i).n ≤ wid S k := by
  induction k with
  | zero => omega
  | succ k ih =>
    simp only [wid]
    by_cases e : i = k
    · subst e; exact Nat.le_max_right _ _
    · exact Nat.le_trans (ih (by omega)) (Nat.le_max_left _ _)

/-- What Rank answers. -/
def rankV (n : Nat) (S : Nat → Sl) : Int := if n ≤ 64 ∧ wid S n ≤ 64 then ((reduce n (fun i => padX (S i)) (wid S n)).2.length : Int) else -1

theorem max_spell (t s : Nat) : (if t < s then (s : Int) else (t : Int)) = ((Nat.max t s : Nat) : Int) := by
  show _ = ((max t s : Nat) : Int)
  split <;> omega

theorem rankV_rows {n : Nat} {S : Nat → Sl} (h : 64 < n) : rankV n S = -1 := by unfold rankV; rw [if_neg (by omega)]
theorem rankV_wide {n : Nat} {S : Nat → Sl} (h : 64 < wid S n) : rankV n S = -1 := by unfold rankV; rw [if_neg (by omega)]
theorem rankV_ok {n : Nat} {S : Nat → Sl} (h : n ≤ 64) (h' : wid S n ≤ 64) : rankV n S = ((reduce n (fun i => padX (S i)) (wid S n)).2.length : Int) := by unfold rankV; rw [if_pos ⟨h, h'⟩]

set_option maxHeartbeats 400000 in
theorem rank_any (a : Option Addr) (b o n c : Nat) (S : Nat → Sl) (w : World) (ha : 0 < n → a = some ⟨b, o, none⟩)
    (hout : Rd w b o n (fun i => (S i).v)) (hok : ∀ i, i < n → (S i).ok w) (hn : n ≤ 1099511627776) :
    Calls Tryz.prog 87 #[.slice a n c] w fun e w' => e = .returned (I (rankV n S)) ∧ Below w.heap.size w w' := by
  have HO := Lib.hid hout
  have HK := Lib.hid hok
  clear hout hok
  go_enter Tryz.func87, Tryz.ntmps87
  go_wp2_with fail
  go_loop [3, 8] (fun m i => ∃ k : Nat, k ≤ n ∧ i = I k ∧ m = I (wid S k)) (fun _ i => n - (intOf i).toNat)
  case atStart => exact ⟨0, by omega, rfl, rfl⟩
  case round =>
    obtain ⟨k, hk, rfl, rfl⟩ := hrel
    by_cases hlt : k < n
    · obtain rfl := ha (by omega)
      have c1 : w.cell? ⟨b, o + k, none⟩ = some (.slice (S k).a (S k).n (S k).c) := HO.out k hlt
      have hw := Lib.hid (show wid S (k + 1) = Nat.max (wid S k) (S k).n from rfl)
      generalize wid S k = t at *
      go_wp2_with fail
      go_round
      case rel => exact ⟨k + 1, by omega, by go_num, by rw [hw.out, max_spell]⟩
      case measure => simp [intOf]; omega
    · obtain rfl : k = n := by omega
      by_cases h1 : k ≤ 64
      · by_cases h2 : wid S k ≤ 64
        · have hclone := Lib.hid (clone_any a b o k c (wid S k) S w ha HO.out HK.out (fun i hi => wid_le S hi) (by omega) (by omega))
          have hfin := Lib.hid (rankV_ok h1 h2)
          generalize wid S k = W at *
          go_wp2_with (go_at_call 102; refine hclone.out.mono ?_; rintro e w1 ⟨rfl, hc⟩; have HC := Lib.hid hc; clear hc)
          refine (reduce_any w.heap.size k W W k (fun i => w.heap.size + 1 + i) (fun i => padX (S i)) _ HC.out.done (by omega) (by omega) (Nat.le_refl _)).mono ?_
          rintro e w2 ⟨v, β, rfl, hr⟩
          obtain ⟨va, vb, vc, rfl, _, _, _, _, _⟩ := hr.piv.shape
          have HR := Lib.hid hr
          clear hr
          go_wp2_with fail
          go_ret
          refine ⟨ret_int hfin.out.symm, ?_⟩
          exact Below.upd HC.out.below HR.out.upd (fun b hb => by rcases hb with rfl | ⟨j, _, rfl⟩ <;> omega) HC.out.below.size
        · go_wp2_with fail
          go_ret
          exact ⟨ret_int (rankV_wide (by omega)).symm, Below.refl _ _⟩
      · go_wp2_with fail
        go_ret
        exact ⟨ret_int (rankV_rows (by omega)).symm, Below.refl _ _⟩

end Go.Proofs.YtgelingkifafeaaGreatDoor

/- The rank depends on the rows alone. -/
namespace Go.Proofs.YtgelingkifafeaaGreatDoor
open Go.RowKit Go.Proofs Lin
set_option maxRecDepth 100000
set_option linter.unusedVariables false

theorem wid_congr {S T : Nat → Sl} : ∀ {n : Nat}, (∀ i, i < n → (S i).n = (T i).n) → wid S n = wid T n
  | 0, _ => rfl
  | n + 1, h => by simp only [wid]; rw [wid_congr fun i hi => h i (by omega), h n (by omega)]

theorem rk_congr {n w : Nat} {M N : Mat} (h : ∀ i, i < n → M i = N i) : rk (Lin.Rows n M) w = rk (Lin.Rows n N) w :=
  rk_eq (fun _ ⟨i, h0, hi, e⟩ => .row ⟨i, h0, hi, e.trans (h i hi)⟩) (fun _ ⟨i, h0, hi, e⟩ => .row ⟨i, h0, hi, e.trans (h i hi).symm⟩) w

theorem rankV_congr {S T : Nat → Sl} {n : Nat} (h : ∀ i, i < n → (S i).n = (T i).n) (hx : ∀ i, i < n → padX (S i) = padX (T i)) : rankV n S = rankV n T := by
  unfold rankV
  rw [wid_congr h, reduce_rank, reduce_rank, rk_congr hx]

end Go.Proofs.YtgelingkifafeaaGreatDoor

/- The reference's Shards. -/
namespace Go.Proofs.YtgelingkifafeaaGreatDoor
open Go.RowKit Go.Proofs Lin
set_option maxRecDepth 100000
set_option linter.unusedVariables false

set_option maxHeartbeats 400000 in
theorem refShards_any (D L G : Int) (h : 0 ≤ D ∧ D ≤ 1000 ∧ 0 ≤ L ∧ L ≤ 1000 ∧ 0 ≤ G ∧ G ≤ 1000) (w : World) :
    Calls Tryz.prog 10 #[PV D L G] w fun e w' => e = .returned (I (D + L + G)) ∧ Below w.heap.size w w' := by
  obtain ⟨h1, h2, h3, h4, h5, h6⟩ := h
  go_enter Tryz.func10, Tryz.ntmps10
  go_wp2_with fail
  go_ret
  exact ⟨rfl, (Below.refl _ _).alloc (Nat.le_refl _) _⟩

end Go.Proofs.YtgelingkifafeaaGreatDoor
