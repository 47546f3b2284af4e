import Derived.Test.YthaamnjpjkkolabDoorCode
/- The matrix of a code: small laws. -/
namespace Go.Proofs.YthaamnjpjkkolabDoor
open Go.RowKit Go.Proofs Lin
set_option maxRecDepth 100000
set_option linter.unusedVariables false

/-- x / y of ints that are not below nought. -/
theorem div_run (a b : Nat) (hb : 0 < b) (ha : a < 2 ^ 62) (w : World) : (Op.intDiv .quo .i64 (a : Int) (b : Int)).run Tryd.prog w = .ok (I ((a / b : Nat) : Int)) w := by
  have h0 : ¬ ((b : Int) = 0) := by omega
  have hle : a / b ≤ a := Nat.div_le_self _ _
  have hw : IntKind.i64.wrap ((a / b : Nat) : Int) = ((a / b : Nat) : Int) := wraps_i64 _ (Int.natCast_nonneg _) (by generalize a / b = q at *; omega)
  show ((if (b : Int) = 0 then _ else pure (.int .i64 (IntKind.i64.wrap ((a : Int).tdiv (b : Int)))) : Sem Value)).run Tryd.prog w = _
  rw [if_neg h0, tdiv_nat, hw]
  rfl

/-- A row of noughts of which byte i is turned to 1. -/
theorem codeM_data {D L k : Nat} (hk : k < D) : (fun j => if j = k then (1 : UInt8) else 0) = codeM D L k := by
  funext j; unfold codeM; rw [if_pos hk]
  by_cases e : j = k
  · rw [if_pos e, if_pos e.symm]
  · rw [if_neg e, if_neg fun e' => e e'.symm]
theorem codeM_local {D L k j : Nat} (hd : D % L = 0) (hL : 1 ≤ L) (hD : 1 ≤ D) (hk : k < L) (hj : j < D) : (if k * (D / L) ≤ j ∧ j < k * (D / L) + D / L then (1 : UInt8) else 0) = codeM D L (D + k) j := by
  have e0 : codeM D L (D + k) j = if D + j / (D / L) = D + k then 1 else 0 := by unfold codeM; rw [if_neg (by omega), if_pos (by omega)]
  have hs : 0 < D / L := Nat.div_pos (Nat.le_of_dvd (by omega) (Nat.dvd_of_mod_eq_zero hd)) (by omega)
  have e : (k * (D / L) ≤ j ∧ j < k * (D / L) + D / L) ↔ D + j / (D / L) = D + k := by
    rw [Nat.add_left_cancel_iff, Nat.div_eq_iff hs]
    omega
  rw [e0]
  by_cases h : k * (D / L) ≤ j ∧ j < k * (D / L) + D / L
  · rw [if_pos h, if_pos (e.1 h)]
  · rw [if_neg h, if_neg fun h' => h (e.2 h')]
theorem codeM_global {D L k j : Nat} : Gf.inv (UInt8.ofNat ((D + k) ^^^ j)) = codeM D L (D + L + k) j := by
  unfold codeM
  rw [if_neg (by omega), if_neg (by omega), show D + L + k - L = D + k by omega]

section
variable {w wr w1 : World} {v : Value} {k W : Nat} {M : Mat} {β : Nat → Nat}
theorem Gm.vcFill (h : Gm w wr v k W M β) {ob : Obj} (hu1 : Upd (· = wr.heap.size) (wr.alloc ob) w1) : Vc w1 w.heap.size 28 v k (fun j => .slice (some ⟨β j, 0, none⟩) W W) :=
  (h.vc.alloc ob).kept hu1 fun t ht e => by have := (h.vc.lt t ht).2; omega
theorem Gm.szFill (h : Gm w wr v k W M β) {ob : Obj} (hu1 : Upd (· = wr.heap.size) (wr.alloc ob) w1) : w.heap.size ≤ w1.heap.size := by
  have h1 := h.below.size
  have h2 := hu1.size
  rw [Deep.nblk_alloc] at h2; omega
theorem Gm.mono {w0 : World} (h : Gm w wr v k W M β) (hb : Below w0.heap.size w0 w) : Gm w0 wr v k W M β := by
  have hs := hb.size
  refine ⟨hb.trans (h.below.mono hs), ⟨h.vc.1, ?_⟩, h.row, h.kd, fun j hj => Nat.le_trans hs (h.own j hj), h.up⟩
  rcases h.vc.2 with h0 | ⟨g, cap, cur, e1, e2, rest⟩
  · exact .inl h0
  · exact .inr ⟨g, cap, cur, e1, Nat.le_trans hs e2, rest⟩
theorem Doing.from {g n m : Nat} {x y : Nat → UInt8} (h : Row w g 0 n (bs x)) (e : ∀ j, j < m → y j = x j) : Doing w w g n m x y :=
  ⟨Upd.refl _ _, KdKept.refl _, rfl, h.congr fun j _ => by by_cases hj : j < m <;> simp [bs, hj, e]⟩
theorem Doing.rowTo {g n m : Nat} {x y : Nat → UInt8} (h : Doing w wr g n m x y) (e : ∀ j, m ≤ j → j < n → y j = x j) : Row wr g 0 n (bs y) :=
  h.row.congr fun j hj => by
    by_cases h1 : j < m
    · simp [bs, h1]
    · simp [bs, h1, e j (by omega) hj]
end

/-- The three numbers of params that lie in a block. -/
def pcells (D L G : Nat) : Nat → Value := fun i => if i = 0 then I D else if i = 1 then I L else I G

theorem pcells_new (w : World) (D L G : Nat) (t : TypeId) : Rd (w.alloc (.cells #[I D, I L, I G] t)) w.heap.size 0 3 (pcells D L G) := by
  intro i hi
  simp only [World.cell?, Nat.zero_add, Deep.blk_alloc_new]
  rcases (show i = 0 ∨ i = 1 ∨ i = 2 by omega) with rfl | rfl | rfl <;> simp [pcells]

/-- Behind the test of its params: the box of the params lies in block pb. -/
structure MatIn (w w1 : World) (D L G pb : Nat) : Prop where
  below : Below w.heap.size w w1
  par : Rd w1 pb 0 3 (pcells D L G)

theorem MatIn.mk' {w w1 : World} {D L G : Nat} {t : TypeId} (hb : Below (w.alloc (.cells #[I D, I L, I G] t)).heap.size (w.alloc (.cells #[I D, I L, I G] t)) w1) : MatIn w w1 D L G w.heap.size :=
  ⟨((Below.refl w.heap.size w).alloc (Nat.le_refl _) (.cells #[I D, I L, I G] t)).trans (hb.mono (by simp)), (pcells_new w D L G t).later hb⟩

end Go.Proofs.YthaamnjpjkkolabDoor
