import Derived.Test.YthaamnjpjkkolaaRowsW
import Derived.Test.YthaamnjpjkkolaaField
import Derived.Test.YthaamnjpjkkolaaRed
/- Matrices of bytes: Clone, Scale, AddTo, By. -/
namespace Go.Proofs.Ythaamnjpjkkolaa
open Go.RowKit Go.Proofs
set_option maxRecDepth 100000
set_option linter.unusedVariables false

/-- make(Matrix, n) -/
theorem make_rows (n : Int) (h0 : 0 ≤ n) (h1 : n ≤ 1000000) (w : World) :
    (Instr.makeSlice 58 (.int .i64 n) (.int .i64 n)).run Try.prog w = .ok (.slice (some ⟨w.heap.size, 0, none⟩) n.toNat n.toNat) (w.alloc (.cells (madeCells #[.slice none 0 0] n.toNat) 43)) := by
  have := run_make_row' (P := Try.prog) 58 43 (.slice none 0 0) 24 Try.underlying58 infoBs rfl .i64 .i64 n.toNat (by omega) (by omega) w
  rwa [Int.toNat_of_nonneg h0] at this

/-- A matrix of n rows of W bytes: its outer row is block g, row i is block β i. -/
structure Mx (w : World) (g n W : Nat) (β : Nat → Nat) (M : Nat → Nat → UInt8) : Prop where
  outer : Row w g 0 n (fun i => .slice (some ⟨β i, 0, none⟩) W W)
  rows : ∀ i, i < n → Row w (β i) 0 W (bs (M i))
  kd : ∀ i, i < n → Kd w (β i) 5
  inj : ∀ i j, i < n → j < n → β i = β j → i = j
  gk : Kd w g 43

theorem Mx.ne {w : World} {g n W : Nat} {β : Nat → Nat} {M : Nat → Nat → UInt8} (h : Mx w g n W β M) {i : Nat} (hi : i < n) : β i ≠ g := (h.kd i hi).ne h.gk (by decide)

/-- A row, filled up with noughts. -/
def padX (s : Sl) : Nat → UInt8 := fun j => if j < s.n then s.x j else 0

/-- While Clone goes on: k rows are made. -/
structure Cloning (w wr : World) (n W k : Nat) (S : Nat → Sl) : Prop where
  below : Below w.heap.size w wr
  size : wr.heap.size = w.heap.size + 1 + k
  outer : Row wr w.heap.size 0 n (fun i => if i < k then .slice (some ⟨w.heap.size + 1 + i, 0, none⟩) W W else .slice none 0 0)
  rows : ∀ i, i < k → Row wr (w.heap.size + 1 + i) 0 W (bs (padX (S i)))
  kd : ∀ i, i < k → Kd wr (w.heap.size + 1 + i) 5
  gk : Kd wr w.heap.size 43

theorem Cloning.start (w : World) (n W : Nat) (S : Nat → Sl) : Cloning w (w.alloc (.cells (madeCells #[.slice none 0 0] n) 43)) n W 0 S :=
  ⟨(Below.refl _ _).alloc (Nat.le_refl _) _, by rw [Deep.nblk_alloc], (Row.new w _ n _).congr fun i _ => by simp, fun i hi => absurd hi (by omega), fun i hi => absurd hi (by omega), Kd.new _ _ _⟩

theorem Cloning.next {w wr w2 : World} {n W k : Nat} {S : Nat → Sl} (h : Cloning w wr n W k S) (hk : k < n) (hL : (S k).n ≤ W)
    (hu : Upd (· = wr.heap.size) ((wr.alloc (.cells (madeCells #[.int .u8 0] W) 5)).setCell ⟨w.heap.size, k, none⟩ (.slice (some ⟨wr.heap.size, 0, none⟩) W W)) w2)
    (hz : w2.heap.size = ((wr.alloc (.cells (madeCells #[.int .u8 0] W) 5)).setCell ⟨w.heap.size, k, none⟩ (.slice (some ⟨wr.heap.size, 0, none⟩) W W)).heap.size)
    (hkd : KdKept ((wr.alloc (.cells (madeCells #[.int .u8 0] W) 5)).setCell ⟨w.heap.size, k, none⟩ (.slice (some ⟨wr.heap.size, 0, none⟩) W W)) w2)
    (hr : Row w2 wr.heap.size 0 W (fun i => if i < (S k).n then bs (S k).x i else .int .u8 0)) : Cloning w w2 n W (k + 1) S := by
  have e : wr.heap.size = w.heap.size + 1 + k := h.size
  have hnew : Kd (wr.alloc (.cells (madeCells #[.int .u8 0] W) 5)) wr.heap.size 5 := Kd.new _ _ _
  rw [e] at hu hz hkd hr hnew
  refine ⟨?_, ?_, ?_, fun i hi => ?_, fun i hi => ?_, ?_⟩
  · have h1 : Below w.heap.size w ((wr.alloc (.cells (madeCells #[.int .u8 0] W) 5)).setCell ⟨w.heap.size, k, none⟩ (.slice (some ⟨w.heap.size + 1 + k, 0, none⟩) W W)) :=
      (h.below.alloc (by omega) _).setCell (Nat.le_refl _) _
    exact Below.upd h1 hu (fun b hb => by omega) (by rw [Deep.nblk_setCell, Deep.nblk_alloc]; omega)
  · rw [hz, Deep.nblk_setCell, Deep.nblk_alloc]; omega
  · have h1 := (h.outer.alloc (.cells (madeCells #[.int .u8 0] W) 5)).set hk (.slice (some ⟨w.heap.size + 1 + k, 0, none⟩) W W)
    rw [Nat.zero_add] at h1
    refine (h1.upd hu fun _ => by omega).congr fun i hi => ?_
    by_cases e1 : i = k
    · subst e1; simp
    · by_cases e2 : i < k
      · simp [e1, e2, show i < k + 1 by omega]
      · simp [e1, e2, show ¬ i < k + 1 by omega]
  · by_cases e1 : i = k
    · subst e1
      refine hr.congr fun j _ => ?_
      by_cases e2 : j < (S i).n <;> simp [bs, B, padX, e2]
    · have h1 := (h.rows i (by omega)).alloc (.cells (madeCells #[.int .u8 0] W) 5)
      exact (h1.other (a := ⟨w.heap.size, k, none⟩) (by show w.heap.size ≠ _; omega) _).upd hu fun _ => by omega
  · by_cases e1 : i = k
    · subst e1
      exact hkd _ _ (hnew.set _ _)
    · exact hkd _ _ (((h.kd i (by omega)).alloc _).set _ _)
  · exact hkd _ _ ((h.gk.alloc _).set _ _)

theorem Cloning.done {w wr : World} {n W : Nat} {S : Nat → Sl} (h : Cloning w wr n W n S) : Mx wr w.heap.size n W (fun i => w.heap.size + 1 + i) (fun i => padX (S i)) :=
  ⟨h.outer.congr fun i hi => by simp [hi], h.rows, h.kd, fun i j _ _ e => by omega, h.gk⟩

set_option maxHeartbeats 400000 in
theorem clone_any (a : Option Addr) (b o n c W : Nat) (S : Nat → Sl) (w : World) (ha : 0 < n → a = some ⟨b, o, none⟩)
    (hout : Rd w b o n (fun i => (S i).v)) (hok : ∀ i, i < n → (S i).ok w) (hL : ∀ i, i < n → (S i).n ≤ W) (hn : n ≤ 1000000) (hW : W ≤ 1000000) :
    Calls Try.prog 34 #[.slice a n c, I (W : Int)] w fun e w' => e = .returned (.slice (some ⟨w.heap.size, 0, none⟩) n n) ∧ Cloning w w' n W n S := by
  have HO := Lib.hid hout
  have HK := Lib.hid hok
  have HL := Lib.hid hL
  clear hout hok hL
  have hmk := make_rows (n : Int) (by omega) (by omega)
  have hmb := make_bytes (W : Int) (by omega) (by omega)
  simp only [Int.toNat_natCast] at hmk hmb
  go_enter Try.func34, Try.ntmps34
  go_wp2
  go_loopw [13] (fun i wr => ∃ k : Nat, k ≤ n ∧ i = I k ∧ Cloning w wr n W k S) (fun i _ => n - (intOf i).toNat)
  case atStart => exact ⟨0, by omega, rfl, Cloning.start _ _ _ _⟩
  case round =>
    obtain ⟨k, hk, rfl, hcl⟩ := hrel
    have HC := Lib.hid hcl
    clear hcl
    by_cases hlt : k < n
    · obtain rfl := ha (by omega)
      have c1 : wr.cell? ⟨b, o + k, none⟩ = some (.slice (S k).a (S k).n (S k).c) := (HO.out.later HC.out.below) k hlt
      have c2 : ∀ ob, (wr.alloc ob).cell? ⟨w.heap.size, k, none⟩ = some (.slice none 0 0) := fun ob => by
        have := (HC.out.outer.alloc ob).cell k hlt
        simpa using this
      have f2 : ∀ ob, (wr.alloc ob).frozen? ⟨w.heap.size, k, none⟩ = false := fun ob => by
        have := (HC.out.outer.alloc ob).free k hlt
        simpa using this
      have hLk := HL.out k hlt
      have hok := Lib.hid (HK.out k hlt)
      have hsz : 0 < n → w.heap.size < wr.heap.size := fun _ => by have := HC.out.size; omega
      go_wp2_with (refine wpList_copy_fn rfl (.tmp 26) (.tmp 27) 43 43 rfl 5 Try.underlying43 sizeU8 _ _ _ _ _ _ rfl rfl (S k).n wr.heap.size 0 W (S k).b (S k).o (fun _ => .int .u8 0) (bs (S k).x) (by show (S k).n = min (S k).n W; omega) hLk ((Row.new _ _ _ _).other (by show w.heap.size ≠ wr.heap.size; have := hsz (by omega); omega) _) (((hok.out.rd.later HC.out.below).alloc _).other (fun h0 => by show w.heap.size ≠ _; have := hok.out.rd.lt h0; omega) _) (fun _ => rfl) hok.out.addr (fun _ _ => rfl) ?_; intro w2 hu2 hz2 hk2 hr2; have HN := Lib.hid (HC.out.next hlt hLk hu2 hz2 hk2 hr2); clear hu2 hz2 hk2 hr2)
      go_roundw
      case rel => exact ⟨k + 1, by omega, by go_num, HN.out⟩
      case measure => simp [intOf]; omega
    · go_wp2
      go_ret
      obtain rfl : k = n := by omega
      exact ⟨rfl, HC.out⟩

/-! ### Scale, AddTo -/

/-- What a loop over a row's bytes has made of the row: the first k are done. -/
structure Doing (w wr : World) (g n k : Nat) (x y : Nat → UInt8) : Prop where
  upd : Upd (· = g) w wr
  kd : KdKept w wr
  size : wr.heap.size = w.heap.size
  row : Row wr g 0 n (bs (fun j => if j < k then y j else x j))

theorem Doing.start {w : World} {g n : Nat} {x y : Nat → UInt8} (h : Row w g 0 n (bs x)) : Doing w w g n 0 x y :=
  ⟨Upd.refl _ _, KdKept.refl _, rfl, h.congr fun j _ => by simp⟩
theorem Doing.drewN {w wr : World} {g n k : Nat} {x y : Nat → UInt8} (h : Doing w wr g n k x y) (q : Nat) : Doing w (wr.drewN q) g n k x y :=
  ⟨h.upd.drewN q, h.kd.drewN q, h.size, h.row.drewN q⟩
theorem Doing.next {w wr : World} {g n k : Nat} {x y : Nat → UInt8} (h : Doing w wr g n k x y) (hk : k < n) {v : Int} (hv : v = ((y k).toNat : Int)) :
    Doing w (wr.setCell ⟨g, k, none⟩ (.int .u8 v)) g n (k + 1) x y := by
  refine ⟨h.upd.setCell (fun _ => rfl) _, h.kd.set _ _, by rw [Deep.nblk_setCell]; exact h.size, (Row.set8 h.row hk (y k) hv).congr fun j _ => ?_⟩
  by_cases e : j = k
  · subst e; simp [bs]
  · by_cases e2 : j < k
    · simp [bs, e, e2, show j < k + 1 by omega]
    · simp [bs, e, e2, show ¬ j < k + 1 by omega]
/-- A byte that stays as it is. -/
theorem Doing.skip {w wr : World} {g n k : Nat} {x y : Nat → UInt8} (h : Doing w wr g n k x y) (e : k < n → y k = x k) : Doing w wr g n (k + 1) x y := by
  refine ⟨h.upd, h.kd, h.size, h.row.congr fun j hj => ?_⟩
  by_cases e1 : j = k
  · subst e1; simp [bs, e hj]
  · by_cases e2 : j < k
    · simp [bs, e2, show j < k + 1 by omega]
    · simp [bs, e2, show ¬ j < k + 1 by omega]
theorem Doing.cellAt {w wr : World} {g n k : Nat} {x y : Nat → UInt8} (h : Doing w wr g n k x y) (hk : k < n) : wr.cell? ⟨g, k, none⟩ = some (B (x k)) := by
  have := h.row.cell k hk; simpa [bs] using this
theorem Doing.freeAt {w wr : World} {g n k : Nat} {x y : Nat → UInt8} (h : Doing w wr g n k x y) (hk : k < n) : wr.frozen? ⟨g, k, none⟩ = false := by
  have := h.row.free k hk; simpa using this

/-- What such a call leaves. -/
structure Done (w w' : World) (g n : Nat) (y : Nat → UInt8) : Prop where
  upd : Upd (· = g) w w'
  kd : KdKept w w'
  size : w'.heap.size = w.heap.size
  row : Row w' g 0 n (bs y)
theorem Doing.done {w wr : World} {g n : Nat} {x y : Nat → UInt8} (h : Doing w wr g n n x y) : Done w wr g n y :=
  ⟨h.upd, h.kd, h.size, h.row.congr fun j hj => by simp [bs, hj]⟩

set_option maxHeartbeats 400000 in
theorem scale_any (g n c : Nat) (x : Nat → UInt8) (k : UInt8) (w : World) (hx : Row w g 0 n (bs x)) (hn : n ≤ 1000000) :
    Calls Try.prog 41 #[.slice (some ⟨g, 0, none⟩) n c, B k] w fun e w' => e = .returned (.tuple #[]) ∧ Done w w' g n (fun j => Gf.mul k (x j)) := by
  have HX := Lib.hid hx
  clear hx
  go_enter Try.func41, Try.ntmps41
  go_wp2_with fail
  go_loopw [8] (fun i wr => ∃ m : Nat, m ≤ n ∧ i = I m ∧ Doing w wr g n m x (fun j => Gf.mul k (x j))) (fun i _ => n - (intOf i).toNat)
  case atStart => exact ⟨0, by omega, rfl, Doing.start HX.out⟩
  case round =>
    obtain ⟨m, hm, rfl, hd⟩ := hrel
    have HD := Lib.hid hd
    clear hd
    by_cases hlt : m < n
    · have c1 := HD.out.cellAt hlt
      have f1 := HD.out.freeAt hlt
      go_wp2_with (go_at_call 25; refine (mul_any _ _ _).mono ?_; rintro e w1 ⟨rfl, rfl⟩)
      go_roundw
      case rel => exact ⟨m + 1, by omega, by go_num, HD.out.next hlt rfl⟩
      case measure => simp [intOf]; omega
    · go_wp2
      go_end0
      obtain rfl : m = n := by omega
      exact ⟨rfl, HD.out.done⟩

/-- AddTo, of rows that are not long. -/
theorem addTo_zero (v1 v2 : Value) (w : World) : Calls Try.prog 42 #[v1, v2, B 0] w fun e w' => e = .returned (.tuple #[]) ∧ w = w' := by
  go_enter Try.func42, Try.ntmps42
  go_wp2
  go_end0
  exact ⟨rfl, rfl⟩

set_option maxHeartbeats 400000 in
theorem addTo_one (a : Option Addr) (g n c b o m c' : Nat) (x y : Nat → UInt8) (w : World) (hx : Row w g 0 n (bs x)) (ha : 0 < m → a = some ⟨b, o, none⟩) (hy : Rd w b o m (bs y)) (hb : 0 < m → b ≠ g) (hm : m ≤ n) (hn : n ≤ 1000000) :
    Calls Try.prog 42 #[.slice (some ⟨g, 0, none⟩) n c, .slice a m c', B 1] w fun e w' => e = .returned (.tuple #[]) ∧ Done w w' g n (fun j => if j < m then x j ^^^ Gf.mul 1 (y j) else x j) := by
  have HX := Lib.hid hx
  have HY := Lib.hid hy
  clear hx hy
  go_enter Try.func42, Try.ntmps42
  go_wp2_with fail
  go_loopw [63] (fun i wr => ∃ k : Nat, k ≤ m ∧ i = I k ∧ Doing w wr g n k x (fun j => if j < m then x j ^^^ Gf.mul 1 (y j) else x j)) (fun i _ => m - (intOf i).toNat)
  case atStart => exact ⟨0, by omega, rfl, Doing.start HX.out⟩
  case round =>
    obtain ⟨k, hk, rfl, hd⟩ := hrel
    have HD := Lib.hid hd
    clear hd
    by_cases hlt : k < m
    · obtain rfl := ha (by omega)
      have c1 := HD.out.cellAt (show k < n by omega)
      have f1 := HD.out.freeAt (show k < n by omega)
      have c2 : wr.cell? ⟨b, o + k, none⟩ = some (B (y k)) := (HY.out.upd HD.out.upd hb) k hlt
      go_wp2
      go_roundw
      case rel => exact ⟨k + 1, by omega, by go_num, HD.out.next (by omega) (by rw [if_pos hlt, Gf.one_mul, xor8])⟩
      case measure => simp [intOf]; omega
    · go_wp2
      go_end0
      obtain rfl : k = m := by omega
      exact ⟨rfl, HD.out.upd, HD.out.kd, HD.out.size, HD.out.row.congr fun j _ => by by_cases e : j < k <;> simp [bs, e]⟩

theorem mul_still (x y : UInt8) (w : World) : Calls Try.prog 25 #[B x, B y] w fun e w' => e = .returned (B (Gf.mul x y)) ∧ w' = w :=
  (mul_any x y w).mono fun _ _ ⟨h1, h2⟩ => ⟨h1, h2.symm⟩

theorem byte_ne_lit {k : UInt8} {n : Nat} (h : k ≠ UInt8.ofNat n) (hn : n < 256) : ((k.toNat : Int) == (n : Int)) = false := by
  rw [beq_eq_false_iff_ne]
  intro e
  apply h
  apply UInt8.toNat.inj
  rw [UInt8.toNat_ofNat', Nat.mod_eq_of_lt (by omega)]
  omega

set_option maxHeartbeats 400000 in
theorem addTo_small (a : Option Addr) (g n c b o m c' : Nat) (x y : Nat → UInt8) (s : UInt8) (w : World) (hx : Row w g 0 n (bs x)) (ha : 0 < m → a = some ⟨b, o, none⟩) (hy : Rd w b o m (bs y)) (hb : 0 < m → b ≠ g) (hm : m ≤ n) (hn : n ≤ 1000000)
    (h0 : s ≠ 0) (h1 : s ≠ 1) (hs : m < 100) :
    Calls Try.prog 42 #[.slice (some ⟨g, 0, none⟩) n c, .slice a m c', B s] w fun e w' => e = .returned (.tuple #[]) ∧ Done w w' g n (fun j => if j < m then x j ^^^ Gf.mul s (y j) else x j) := by
  have HX := Lib.hid hx
  have HY := Lib.hid hy
  clear hx hy
  have e0 : ((s.toNat : Int) == 0) = false := byte_ne_lit (n := 0) h0 (by omega)
  have e1 : ((s.toNat : Int) == 1) = false := byte_ne_lit (n := 1) h1 (by omega)
  have hd : decide ((m : Int) < 100) = true := by simp; omega
  go_enter Try.func42, Try.ntmps42
  go_wp2_with fail
  go_loopw [19] (fun i wr => ∃ k : Nat, k ≤ m ∧ i = I k ∧ Doing w wr g n k x (fun j => if j < m then x j ^^^ Gf.mul s (y j) else x j)) (fun i _ => m - (intOf i).toNat)
  case atStart => exact ⟨0, by omega, rfl, Doing.start HX.out⟩
  case round =>
    obtain ⟨k, hk, rfl, hd⟩ := hrel
    have HD := Lib.hid hd
    clear hd
    by_cases hlt : k < m
    · obtain rfl := ha (by omega)
      have c1 := HD.out.cellAt (show k < n by omega)
      have f1 := HD.out.freeAt (show k < n by omega)
      have c2 : wr.cell? ⟨b, o + k, none⟩ = some (B (y k)) := (HY.out.upd HD.out.upd hb) k hlt
      by_cases hz : y k = 0
      · have ez : ((y k).toNat : Int) = 0 := by rw [hz]; rfl
        have HZ := Lib.hid hz
        clear hz
        go_wp2_with fail
        go_roundw
        case rel => exact ⟨k + 1, by omega, by go_num, HD.out.skip fun _ => by simp only [if_pos hlt]; rw [HZ.out, Gf.mul_zero]; simp⟩
        case measure => simp [intOf]; omega
      · have ez : ((y k).toNat : Int) ≠ 0 := fun e => hz (UInt8.toNat.inj (by simpa using e))
        clear hz
        have hkn : k < n := by omega
        go_wp2_with fail
        go_still_tail 9, mixed
        still_call (mul_still _ _ _)
        repeat still_step
        refine wpStill_nil ?_
        change wpList _ _ _ _ _ (wr.drewN 1)
        go_wp2
        go_roundw
        case rel => exact ⟨k + 1, by omega, by go_num, (HD.out.drewN 1).next (by omega) (by simp only [if_pos hlt]; exact xor8 _ _)⟩
        case measure => simp [intOf]; omega
    · go_wp2
      go_returns
      obtain rfl : k = m := by omega
      exact ⟨rfl, HD.out.upd, HD.out.kd, HD.out.size, HD.out.row.congr fun j _ => by by_cases e : j < k <;> simp [bs, e]⟩

/-- AddTo, of rows that are not long: whatever the number. -/
theorem addTo_short (a : Option Addr) (g n c b o m c' : Nat) (x y : Nat → UInt8) (s : UInt8) (w : World) (hx : Row w g 0 n (bs x)) (ha : 0 < m → a = some ⟨b, o, none⟩) (hy : Rd w b o m (bs y)) (hb : 0 < m → b ≠ g) (hm : m ≤ n) (hn : n ≤ 1000000)
    (hs : m < 100) :
    Calls Try.prog 42 #[.slice (some ⟨g, 0, none⟩) n c, .slice a m c', B s] w fun e w' => e = .returned (.tuple #[]) ∧ Done w w' g n (fun j => if j < m then x j ^^^ Gf.mul s (y j) else x j) := by
  by_cases h0 : s = 0
  · subst h0
    refine (addTo_zero _ _ w).mono ?_
    rintro e w' ⟨rfl, rfl⟩
    exact ⟨rfl, Upd.refl _ _, KdKept.refl _, rfl, hx.congr fun j _ => by by_cases e : j < m <;> simp [bs, e, Gf.zero_mul]⟩
  · by_cases h1 : s = 1
    · subst h1
      exact addTo_one a g n c b o m c' x y w hx ha hy hb hm hn
    · exact addTo_small a g n c b o m c' x y s w hx ha hy hb hm hn h0 h1 hs
end Go.Proofs.Ythaamnjpjkkolaa
