import Derived.Test.YthaamnjpjkkolabDoorRowsW
import Derived.Test.YthaamnjpjkkolabDoorField
import Derived.Test.YthaamnjpjkkolabDoorRed
/- Matrices of bytes: Clone, Scale, AddTo, By. -/
namespace Go.Proofs.YthaamnjpjkkolabDoor
open Go.RowKit Go.Proofs
set_option maxRecDepth 100000
set_option linter.unusedVariables false

/-- make(Matrix, n) -/
theorem make_rows (n : Int) (h0 : 0 ≤ n) (h1 : n ≤ 1000000) (w : World) :
    (Instr.makeSlice 97 (.int .i64 n) (.int .i64 n)).run Tryd.prog w = .ok (.slice (some ⟨w.heap.size, 0, none⟩) n.toNat n.toNat) (w.alloc (.cells (madeCells #[.slice none 0 0] n.toNat) 28)) := by
  have := run_make_row' (P := Tryd.prog) 97 28 (.slice none 0 0) 24 Tryd.underlying97 infoBs rfl .i64 .i64 n.toNat (by omega) (by omega) w
  rwa [Int.toNat_of_nonneg h0] at this

/-- A matrix of n rows of W bytes: its outer row is block g, row i is block β i. -/
structure Mx (w : World) (g n W : Nat) (β : Nat → Nat) (M : Nat → Nat → UInt8) : Prop where
  outer : Row w g 0 n (fun i => .slice (some ⟨β i, 0, none⟩) W W)
  rows : ∀ i, i < n → Row w (β i) 0 W (bs (M i))
  kd : ∀ i, i < n → Kd w (β i) 5
  inj : ∀ i j, i < n → j < n → β i = β j → i = j
  gk : Kd w g 28

theorem Mx.ne {w : World} {g n W : Nat} {β : Nat → Nat} {M : Nat → Nat → UInt8} (h : Mx w g n W β M) {i : Nat} (hi : i < n) : β i ≠ g := (h.kd i hi).ne h.gk (by decide)

/-- A row, filled up with noughts. -/
def padX (s : Sl) : Nat → UInt8 := fun j => if j < s.n then s.x j else 0

/-! ### Scale, AddTo -/

/-- What a loop over a row's bytes has made of the row: the first k are done. -/
structure Doing (w wr : World) (g n k : Nat) (x y : Nat → UInt8) : Prop where
  upd : Upd (· = g) w wr
  kd : KdKept w wr
  size : wr.heap.size = w.heap.size
  row : Row wr g 0 n (bs (fun j => if j < k then y j else x j))

theorem Doing.start {w : World} {g n : Nat} {x y : Nat → UInt8} (h : Row w g 0 n (bs x)) : Doing w w g n 0 x y :=
  ⟨Upd.refl _ _, KdKept.refl _, rfl, h.congr fun j _ => by simp⟩
theorem Doing.drewN {w wr : World} {g n k : Nat} {x y : Nat → UInt8} (h : Doing w wr g n k x y) (q : Nat) : Doing w (wr.drewN q) g n k x y :=
  ⟨h.upd.drewN q, h.kd.drewN q, h.size, h.row.drewN q⟩
theorem Doing.next {w wr : World} {g n k : Nat} {x y : Nat → UInt8} (h : Doing w wr g n k x y) (hk : k < n) {v : Int} (hv : v = ((y k).toNat : Int)) :
    Doing w (wr.setCell ⟨g, k, none⟩ (.int .u8 v)) g n (k + 1) x y := by
  refine ⟨h.upd.setCell (fun _ => rfl) _, h.kd.set _ _, by rw [Deep.nblk_setCell]; exact h.size, (Row.set8 h.row hk (y k) hv).congr fun j _ => ?_⟩
  by_cases e : j = k
  · subst e; simp [bs]
  · by_cases e2 : j < k
    · simp [bs, e, e2, show j < k + 1 by omega]
    · simp [bs, e, e2, show ¬ j < k + 1 by omega]
/-- A byte that stays as it is. -/
theorem Doing.skip {w wr : World} {g n k : Nat} {x y : Nat → UInt8} (h : Doing w wr g n k x y) (e : k < n → y k = x k) : Doing w wr g n (k + 1) x y := by
  refine ⟨h.upd, h.kd, h.size, h.row.congr fun j hj => ?_⟩
  by_cases e1 : j = k
  · subst e1; simp [bs, e hj]
  · by_cases e2 : j < k
    · simp [bs, e2, show j < k + 1 by omega]
    · simp [bs, e2, show ¬ j < k + 1 by omega]
theorem Doing.cellAt {w wr : World} {g n k : Nat} {x y : Nat → UInt8} (h : Doing w wr g n k x y) (hk : k < n) : wr.cell? ⟨g, k, none⟩ = some (B (x k)) := by
  have := h.row.cell k hk; simpa [bs] using this
theorem Doing.freeAt {w wr : World} {g n k : Nat} {x y : Nat → UInt8} (h : Doing w wr g n k x y) (hk : k < n) : wr.frozen? ⟨g, k, none⟩ = false := by
  have := h.row.free k hk; simpa using this

/-- What such a call leaves. -/
structure Done (w w' : World) (g n : Nat) (y : Nat → UInt8) : Prop where
  upd : Upd (· = g) w w'
  kd : KdKept w w'
  size : w'.heap.size = w.heap.size
  row : Row w' g 0 n (bs y)
theorem Doing.done {w wr : World} {g n : Nat} {x y : Nat → UInt8} (h : Doing w wr g n n x y) : Done w wr g n y :=
  ⟨h.upd, h.kd, h.size, h.row.congr fun j hj => by simp [bs, hj]⟩

/-- AddTo, of rows that are not long. -/
theorem addTo_zero (v1 v2 : Value) (w : World) : Calls Tryd.prog 47 #[v1, v2, B 0] w fun e w' => e = .returned (.tuple #[]) ∧ w = w' := by
  go_enter Tryd.func47, Tryd.ntmps47
  go_wp2
  go_end0
  exact ⟨rfl, rfl⟩

set_option maxHeartbeats 400000 in
theorem addTo_one (a : Option Addr) (g n c b o m c' : Nat) (x y : Nat → UInt8) (w : World) (hx : Row w g 0 n (bs x)) (ha : 0 < m → a = some ⟨b, o, none⟩) (hy : Rd w b o m (bs y)) (hb : 0 < m → b ≠ g) (hm : m ≤ n) (hn : n ≤ 1000000) :
    Calls Tryd.prog 47 #[.slice (some ⟨g, 0, none⟩) n c, .slice a m c', B 1] w fun e w' => e = .returned (.tuple #[]) ∧ Done w w' g n (fun j => if j < m then x j ^^^ Gf.mul 1 (y j) else x j) := by
  have HX := Lib.hid hx
  have HY := Lib.hid hy
  clear hx hy
  go_enter Tryd.func47, Tryd.ntmps47
  go_wp2_with fail
  go_loopw [63] (fun i wr => ∃ k : Nat, k ≤ m ∧ i = I k ∧ Doing w wr g n k x (fun j => if j < m then x j ^^^ Gf.mul 1 (y j) else x j)) (fun i _ => m - (intOf i).toNat)
  case atStart => exact ⟨0, by omega, rfl, Doing.start HX.out⟩
  case round =>
    obtain ⟨k, hk, rfl, hd⟩ := hrel
    have HD := Lib.hid hd
    clear hd
    by_cases hlt : k < m
    · obtain rfl := ha (by omega)
      have c1 := HD.out.cellAt (show k < n by omega)
      have f1 := HD.out.freeAt (show k < n by omega)
      have c2 : wr.cell? ⟨b, o + k, none⟩ = some (B (y k)) := (HY.out.upd HD.out.upd hb) k hlt
      go_wp2
      go_roundw
      case rel => exact ⟨k + 1, by omega, by go_num, HD.out.next (by omega) (by rw [if_pos hlt, Gf.one_mul, xor8])⟩
      case measure => simp [intOf]; omega
    · go_wp2
      go_end0
      obtain rfl : k = m := by omega
      exact ⟨rfl, HD.out.upd, HD.out.kd, HD.out.size, HD.out.row.congr fun j _ => by by_cases e : j < k <;> simp [bs, e]⟩

theorem mul_still (x y : UInt8) (w : World) : Calls Tryd.prog 62 #[B x, B y] w fun e w' => e = .returned (B (Gf.mul x y)) ∧ w' = w :=
  (mul_any x y w).mono fun _ _ ⟨h1, h2⟩ => ⟨h1, h2.symm⟩

theorem byte_ne_lit {k : UInt8} {n : Nat} (h : k ≠ UInt8.ofNat n) (hn : n < 256) : ((k.toNat : Int) == (n : Int)) = false := by
  rw [beq_eq_false_iff_ne]
  intro e
  apply h
  apply UInt8.toNat.inj
  rw [UInt8.toNat_ofNat', Nat.mod_eq_of_lt (by omega)]
  omega

set_option maxHeartbeats 400000 in
theorem addTo_small (a : Option Addr) (g n c b o m c' : Nat) (x y : Nat → UInt8) (s : UInt8) (w : World) (hx : Row w g 0 n (bs x)) (ha : 0 < m → a = some ⟨b, o, none⟩) (hy : Rd w b o m (bs y)) (hb : 0 < m → b ≠ g) (hm : m ≤ n) (hn : n ≤ 1000000)
    (h0 : s ≠ 0) (h1 : s ≠ 1) (hs : m < 100) :
    Calls Tryd.prog 47 #[.slice (some ⟨g, 0, none⟩) n c, .slice a m c', B s] w fun e w' => e = .returned (.tuple #[]) ∧ Done w w' g n (fun j => if j < m then x j ^^^ Gf.mul s (y j) else x j) := by
  have HX := Lib.hid hx
  have HY := Lib.hid hy
  clear hx hy
  have e0 : ((s.toNat : Int) == 0) = false := byte_ne_lit (n := 0) h0 (by omega)
  have e1 : ((s.toNat : Int) == 1) = false := byte_ne_lit (n := 1) h1 (by omega)
  have hd : decide ((m : Int) < 100) = true := by simp; omega
  go_enter Tryd.func47, Tryd.ntmps47
  go_wp2_with fail
  go_loopw [19] (fun i wr => ∃ k : Nat, k ≤ m ∧ i = I k ∧ Doing w wr g n k x (fun j => if j < m then x j ^^^ Gf.mul s (y j) else x j)) (fun i _ => m - (intOf i).toNat)
  case atStart => exact ⟨0, by omega, rfl, Doing.start HX.out⟩
  case round =>
    obtain ⟨k, hk, rfl, hd⟩ := hrel
    have HD := Lib.hid hd
    clear hd
    by_cases hlt : k < m
    · obtain rfl := ha (by omega)
      have c1 := HD.out.cellAt (show k < n by omega)
      have f1 := HD.out.freeAt (show k < n by omega)
      have c2 : wr.cell? ⟨b, o + k, none⟩ = some (B (y k)) := (HY.out.upd HD.out.upd hb) k hlt
      by_cases hz : y k = 0
      · have ez : ((y k).toNat : Int) = 0 := by rw [hz]; rfl
        have HZ := Lib.hid hz
        clear hz
        go_wp2_with fail
        go_roundw
        case rel => exact ⟨k + 1, by omega, by go_num, HD.out.skip fun _ => by simp only [if_pos hlt]; rw [HZ.out, Gf.mul_zero]; simp⟩
        case measure => simp [intOf]; omega
      · have ez : ((y k).toNat : Int) ≠ 0 := fun e => hz (UInt8.toNat.inj (by simpa using e))
        clear hz
        have hkn : k < n := by omega
        go_wp2_with fail
        go_still_tail 9, mixed
        still_call (mul_still _ _ _)
        repeat still_step
        refine wpStill_nil ?_
        change wpList _ _ _ _ _ (wr.drewN 1)
        go_wp2
        go_roundw
        case rel => exact ⟨k + 1, by omega, by go_num, (HD.out.drewN 1).next (by omega) (by simp only [if_pos hlt]; exact xor8 _ _)⟩
        case measure => simp [intOf]; omega
    · go_wp2
      go_returns
      obtain rfl : k = m := by omega
      exact ⟨rfl, HD.out.upd, HD.out.kd, HD.out.size, HD.out.row.congr fun j _ => by by_cases e : j < k <;> simp [bs, e]⟩

/-- AddTo, of rows that are not long: whatever the number. -/
theorem addTo_short (a : Option Addr) (g n c b o m c' : Nat) (x y : Nat → UInt8) (s : UInt8) (w : World) (hx : Row w g 0 n (bs x)) (ha : 0 < m → a = some ⟨b, o, none⟩) (hy : Rd w b o m (bs y)) (hb : 0 < m → b ≠ g) (hm : m ≤ n) (hn : n ≤ 1000000)
    (hs : m < 100) :
    Calls Tryd.prog 47 #[.slice (some ⟨g, 0, none⟩) n c, .slice a m c', B s] w fun e w' => e = .returned (.tuple #[]) ∧ Done w w' g n (fun j => if j < m then x j ^^^ Gf.mul s (y j) else x j) := by
  by_cases h0 : s = 0
  · subst h0
    refine (addTo_zero _ _ w).mono ?_
    rintro e w' ⟨rfl, rfl⟩
    exact ⟨rfl, Upd.refl _ _, KdKept.refl _, rfl, hx.congr fun j _ => by by_cases e : j < m <;> simp [bs, e, Gf.zero_mul]⟩
  · by_cases h1 : s = 1
    · subst h1
      exact addTo_one a g n c b o m c' x y w hx ha hy hb hm hn
    · exact addTo_small a g n c b o m c' x y s w hx ha hy hb hm hn h0 h1 hs
end Go.Proofs.YthaamnjpjkkolabDoor
