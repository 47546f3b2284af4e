import Derived.Test.YthaamnjpjkkolabDoorSubs
import Derived.Test.YthaamnjpjkkolabDoorCompQ
/- A program in the making, in memory. -/
namespace Go.Proofs.YthaamnjpjkkolabDoor
open Go.RowKit Go.Proofs Lin
set_option maxRecDepth 100000
set_option linter.unusedVariables false

theorem infoAS4 : (Tryd.prog.info? 84).map (fun i => (i.zero, i.size, i.bytes)) = some (some (.agg #[.int .u8 0, .int .i64 0, .int .i64 0, .int .u8 0]), 4, 32) := by kernel_rfl

structure Pg (base gb : Nat) (W : World) (P : List Stp) (regs : Nat) (v : Value) : Prop where
  par : Pair W gb 39 (I regs) v
  vs : V4 W base 84 v P.length (fun i => sc (P.getD i Sd))
  hgb : base ≤ gb
  hW : base ≤ W.heap.size

/-- What a step's laying may turn: the program, blocks of steps. -/
def PgG (base gb : Nat) (W : World) : Nat → Prop := fun b => b = gb ∨ base ≤ b ∧ Kd W b 84
def PgStep (base gb : Nat) (W W' : World) : Prop := Upd (PgG base gb W) W W'

theorem kd_uniq {W : World} {b t t' : Nat} (h : Kd W b t) (h' : Kd W b t') : t = t' := by
  obtain ⟨c, h⟩ := h; obtain ⟨c', h'⟩ := h'; rw [h] at h'; cases h'; rfl
theorem Kd.back {W W' : World} {b t : Nat} (h : Kd W' b t) (e : W'.heap[b]? = W.heap[b]?) : Kd W b t := by
  obtain ⟨cs, h⟩ := h; exact ⟨cs, e ▸ h⟩

section
variable {base gb : Nat} {W W' W2 : World} {P : List Stp} {regs : Nat} {v : Value}
theorem PgStep.refl (base gb : Nat) (W : World) : PgStep base gb W W := Upd.refl _ _
theorem PgStep.trans (h : PgStep base gb W W') (k : PgStep base gb W' W2) : PgStep base gb W W2 := by
  refine Upd.trans h k fun b hb hlt => ?_
  rcases hb with e | ⟨h1, h2⟩
  · exact .inl e
  · by_cases hg : PgG base gb W b
    · exact hg
    · exact .inr ⟨h1, h2.back (h.block b hlt hg)⟩
theorem PgStep.of_below (h : Below W.heap.size W W') : PgStep base gb W W' := (Upd.of_below h).mono (fun b _ e => e.elim)
theorem PgStep.box (h : PgStep base gb W W') {b t : Nat} {u : Value} (hb : Boxed W b t u) (ht : t ≠ 84) (hne : b ≠ gb) : Boxed W' b t u :=
  bxUpd hb h (fun e => by rcases e with e | ⟨_, e⟩; exact hne e; exact ht (kd_uniq (bxKd hb) e))
theorem PgStep.pair (h : PgStep base gb W W') {b t : Nat} {x y : Value} (hb : Pair W b t x y) (ht : t ≠ 84) (hne : b ≠ gb) : Pair W' b t x y :=
  hb.upd h (fun e => by rcases e with e | ⟨_, e⟩; exact hne e; exact ht (kd_uniq hb.kd e))
theorem PgStep.kd (h : PgStep base gb W W') {b t : Nat} (hb : Kd W b t) (ht : t ≠ 84) (hne : b ≠ gb) : Kd W' b t :=
  hb.upd h (fun e => by rcases e with e | ⟨_, e⟩; exact hne e; exact ht (kd_uniq hb e))
theorem PgStep.rd (h : PgStep base gb W W') {b o n : Nat} {f : Nat → Value} (hr : Rd W b o n f) {t : Nat} (hb : 0 < n → Kd W b t) (ht : t ≠ 84) (hne : 0 < n → b ≠ gb) : Rd W' b o n f :=
  hr.upd h (fun h0 e => by rcases e with e | ⟨_, e⟩; exact hne h0 e; exact ht (kd_uniq (hb h0) e))
theorem PgStep.below (h : PgStep base gb W W') (h1 : base ≤ gb) (h2 : base ≤ W.heap.size) : Below base W W' :=
  Upd.below h (fun b e => by rcases e with e | e; omega; exact e.1) h2
theorem PgStep.keeps (h : PgStep base gb W W') {t : Nat} (hg : Kd W gb t) (B : Nat) : KeepsFrom B W W' :=
  keepsFrom_upd h (fun b e => by
    rcases e with rfl | ⟨_, e⟩
    · obtain ⟨cs, h⟩ := hg; exact ⟨_, _, _, h⟩
    · obtain ⟨cs, h⟩ := e; exact ⟨_, _, _, h⟩) B
theorem PgStep.kpx (h : PgStep base gb W W') (h1 : base ≤ gb) (h2 : base ≤ W.heap.size) {bx t : Nat} {u : Value} (hb : Boxed W bx t u) (ht : t ≠ 84) (hne : bx ≠ gb) : KpX base bx W W' :=
  kpX_upd h hb.lt (fun e => by rcases e with e | ⟨_, e⟩; exact hne e; exact ht (kd_uniq (bxKd hb) e)) (h.below h1 h2)

theorem Pg.later (h : Pg base gb W P regs v) (hb : Below W.heap.size W W') : Pg base gb W' P regs v := ⟨h.par.later hb, h.vs.later hb, h.hgb, Nat.le_trans h.hW hb.size⟩
theorem v4_cells {w : World} {b e n : Nat} {v : Value} {f : Nat → Nat → Value} (h : V4 w b e v n f) : ∀ k, v.ownBlock = some k → b ≤ k ∧ Kd w k e := fun k hk => by
  refine ⟨(h.lt k hk).1, ?_⟩
  rcases h.2 with ⟨rfl, _⟩ | ⟨g, cap, cur, rfl, _, hg, _⟩
  · simp [Value.ownBlock] at hk
  · obtain rfl : g = k := by simpa [Value.ownBlock] using hk
    exact ⟨cur, hg⟩

theorem Pg.push (h : Pg base gb W P regs v) {w3 : World} {v3 : Value} (s : Stp) (hv : V4 w3 base 84 v3 (P.length + 1) (fun i => if i < P.length then sc (P.getD i Sd) else sc s)) (hu : Upd (fun b => some b = v.ownBlock) W w3) :
    Pg base gb (w3.setCell ⟨gb, 1, none⟩ v3) (P ++ [s]) regs v3 ∧ PgStep base gb W (w3.setCell ⟨gb, 1, none⟩ v3) ∧ w3.cell? ⟨gb, 1, none⟩ = some v ∧ w3.frozen? ⟨gb, 1, none⟩ = false := by
  have hne : ¬ some gb = v.ownBlock := fun e => h.vs.block_ne h.par.kd (by decide) _ e.symm rfl
  have ho := h.par.upd hu hne
  have hU : Upd (fun b => b = gb) w3 (w3.setCell ⟨gb, 1, none⟩ v3) := (Upd.refl (fun b => b = gb) w3).setCell (a := ⟨gb, 1, none⟩) (fun _ => rfl) v3
  refine ⟨⟨ho.set1 v3, ?_, h.hgb, Nat.le_trans (Nat.le_trans h.hW hu.size) hU.size⟩, ?_, ho.c1, ho.f1⟩
  · rw [List.length_append, List.length_singleton]
    refine (hv.kept hU fun t ht' e => hv.block_ne ho.kd (by decide) t ht' e).congr fun i hi j _ => ?_
    by_cases e : i < P.length
    · rw [if_pos e]; simp [List.getD_eq_getElem?_getD, List.getElem?_append_left e]
    · obtain rfl : i = P.length := by omega
      rw [if_neg e]; simp [List.getD_eq_getElem?_getD]
  · exact Upd.trans (hu.mono (H := PgG base gb W) fun b _ e => .inr (v4_cells h.vs b e.symm)) (hU.mono (H := fun b => b = gb) fun b _ e => e) fun b e _ => .inl e

/-- A step's cells, as the walk lays them. -/
def cl (k : Nat) (a b : Int) (c : Value) (j : Nat) : Value := if j = 0 then .int .u8 (k : Int) else if j = 1 then I a else if j = 2 then I b else c
theorem cl_sc (k : Nat) (hk : k < 256) (a b : Int) (c : UInt8) : ∀ j, j < 4 → cl k a b (B c) j = sc ⟨UInt8.ofNat k, a, b, c⟩ j := by
  intro j hj
  rcases (show j = 0 ∨ j = 1 ∨ j = 2 ∨ j = 3 by omega) with rfl | rfl | rfl | rfl
  · show Value.int .u8 (k : Int) = Value.int .u8 ((UInt8.ofNat k).toNat : Int)
    rw [UInt8.toNat_ofNat', Nat.mod_eq_of_lt (by omega)]
  · rfl
  · rfl
  · rfl
theorem cl_one (k : Nat) (a b : Int) (c : Value) (hc : c.oneCell' = true) : ∀ j, j < 4 → (cl k a b c j).oneCell' = true := by
  intro j hj
  rcases (show j = 0 ∨ j = 1 ∨ j = 2 ∨ j = 3 by omega) with rfl | rfl | rfl | rfl
  · rfl
  · rfl
  · rfl
  · exact hc
theorem Pg.push_cl (h : Pg base gb W P regs v) {w3 : World} {v3 : Value} (k : Nat) (hk : k < 256) (a b : Int) (c : UInt8) (hv : V4 w3 base 84 v3 (P.length + 1) (fun i => if i < P.length then sc (P.getD i Sd) else cl k a b (B c))) (hu : Upd (fun b => some b = v.ownBlock) W w3) :
    Pg base gb (w3.setCell ⟨gb, 1, none⟩ v3) (P ++ [⟨UInt8.ofNat k, a, b, c⟩]) regs v3 ∧ PgStep base gb W (w3.setCell ⟨gb, 1, none⟩ v3) ∧ w3.cell? ⟨gb, 1, none⟩ = some v ∧ w3.frozen? ⟨gb, 1, none⟩ = false :=
  h.push _ (hv.congr fun i hi j hj => by
    by_cases e : i < P.length
    · rw [if_pos e, if_pos e]
    · rw [if_neg e, if_neg e]; exact cl_sc k hk a b c j hj) hu

theorem Pair.set0 {w : World} {b t : Nat} {x y : Value} (h : Pair w b t x y) (v : Value) : Pair (w.setCell ⟨b, 0, none⟩ v) b t v y :=
  ⟨cell_set_same h.c0 v, by rw [cell_set_off (by omega)]; exact h.c1, by rw [frozen_set]; exact h.f0, by rw [frozen_set]; exact h.f1, h.kd.set _ _⟩
theorem Pg.reg (h : Pg base gb W P regs v) : Pg base gb (W.setCell ⟨gb, 0, none⟩ (I (regs + 1 : Nat))) P (regs + 1) v ∧ PgStep base gb W (W.setCell ⟨gb, 0, none⟩ (I (regs + 1 : Nat))) := by
  have hU : Upd (fun b => b = gb) W (W.setCell ⟨gb, 0, none⟩ (I (regs + 1 : Nat))) := (Upd.refl (fun b => b = gb) W).setCell (a := ⟨gb, 0, none⟩) (fun _ => rfl) _
  exact ⟨⟨h.par.set0 _, h.vs.kept hU fun t ht e => h.vs.block_ne h.par.kd (by decide) t ht e, h.hgb, Nat.le_trans h.hW hU.size⟩, hU.mono (H := PgG base gb W) fun b _ e => .inl e⟩

theorem pg_own {α : Type} (base gb : Nat) (Pf : α → List Stp) (rf : α → Nat) : Own (fun (s : α) W => ∃ v, Pg base gb W (Pf s) (rf s) v) := by
  intro s X Y row hs hg hrow
  obtain ⟨v, h⟩ := hs
  have hu := Upd.of_grown hg
  have hn : ∀ b t, Kd X b t → ¬ some b = row := fun b t hk e => by
    obtain ⟨o, ho, hc⟩ := hrow b e.symm
    obtain ⟨cs, h⟩ := hk
    rw [h] at ho; cases ho; cases hc
  exact ⟨v, h.par.upd hu (hn _ _ h.par.kd), h.vs.kept hu fun k hk => hn _ _ (v4_cells h.vs k hk).2, h.hgb, Nat.le_trans h.hW hg.size⟩
end
end Go.Proofs.YthaamnjpjkkolabDoor
