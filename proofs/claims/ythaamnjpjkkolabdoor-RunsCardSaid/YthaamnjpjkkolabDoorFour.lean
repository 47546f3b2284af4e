import Derived.Test.YthaamnjpjkkolabDoorSteps
/- Small laws on blocks of four cells, on own slices. -/
namespace Go.Proofs.YthaamnjpjkkolabDoor
open Go.RowKit Go.Proofs
set_option maxRecDepth 100000
set_option linter.unusedVariables false

/-- Four cells of a block of its own. -/
structure Four (w : World) (b : Nat) (x y z u : Value) : Prop where
  c0 : w.cell? ⟨b, 0, none⟩ = some x
  c1 : w.cell? ⟨b, 1, none⟩ = some y
  c2 : w.cell? ⟨b, 2, none⟩ = some z
  c3 : w.cell? ⟨b, 3, none⟩ = some u
theorem Row.new4 (w : World) (x y z u : Value) (t : TypeId) : Four (w.alloc (.cells #[x, y, z, u] t)) w.heap.size x y z u :=
  ⟨by rw [cell_new]; rfl, by rw [cell_new]; rfl, by rw [cell_new]; rfl, by rw [cell_new]; rfl⟩
theorem Four.later {w w' : World} {b : Nat} {x y z u : Value} (h : Four w b x y z u) (hb : Below w.heap.size w w') : Four w' b x y z u := by
  have hlt : b < w.heap.size := World.block_lt_of_cell? _ _ h.c0
  exact ⟨(hb.cell (p := ⟨b, 0, none⟩) hlt).trans h.c0, (hb.cell (p := ⟨b, 1, none⟩) hlt).trans h.c1, (hb.cell (p := ⟨b, 2, none⟩) hlt).trans h.c2, (hb.cell (p := ⟨b, 3, none⟩) hlt).trans h.c3⟩

theorem Vc.of_cells (w : World) (base t : Nat) (c : Array Value) (f : Nat → Value) (hb : base ≤ w.heap.size) (hm : c.size ≤ 1000000) (hf : ∀ i, i < c.size → c[i]? = some (f i)) :
    Vc (w.alloc (.cells c t)) base t (.slice (some ⟨w.heap.size, 0, none⟩) c.size c.size) c.size f := by
  refine ⟨by simp, .inr ⟨w.heap.size, c.size, c, rfl, hb, Deep.blk_alloc_new _ _, Nat.le_refl _, by unfold maxLen; omega, by simp, ?_⟩⟩
  refine List.ext_getElem? fun i => ?_
  by_cases hi : i < c.size
  · have := hf i hi
    simp [hi] at this ⊢
    exact this
  · simp [hi]
theorem Vc.base_le {w : World} {base base' e n : Nat} {v : Value} {f : Nat → Value} (h : Vc w base e v n f) (hb : base' ≤ base) : Vc w base' e v n f := by
  refine ⟨h.1, ?_⟩
  rcases h.2 with hn | ⟨g, cap, cur, rfl, hg, rest⟩
  · exact .inl hn
  · exact .inr ⟨g, cap, cur, rfl, Nat.le_trans hb hg, rest⟩

end Go.Proofs.YthaamnjpjkkolabDoor
