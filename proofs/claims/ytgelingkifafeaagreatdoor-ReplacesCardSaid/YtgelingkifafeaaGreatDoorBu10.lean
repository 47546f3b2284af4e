import Derived.Test.YtgelingkifafeaaGreatDoorBu09
import Derived.Shelf.Spec.TrailingZeros
import Derived.Lib.LaidU8
import Derived.LaidMore
/- From the row's two listed variables to their cells; a world that meets the row. -/
namespace Go.Proofs.YtgelingkifafeaaGreatDoor
open Go.ChangeShapes Go.WideShapes Go.RowKit Go.Shelf
set_option maxRecDepth 100000
set_option linter.unusedVariables false

def laidL2 : List (String × DataW Unit) := [("math/bits.deBruijn64tab", Rows.laid_math_bits_deBruijn64tab), ("errors.errorType", Rows.laid_errors_errorType)]

theorem laid_parts {W : World} (h : laidMetH Tryz.prog laidL2 W) : laidMet Tryz.prog [("math/bits.deBruijn64tab", Rows.laid_math_bits_deBruijn64tab)] W ∧ handlesMet Tryz.prog [("errors.errorType", Rows.laid_errors_errorType)] W := h
theorem handle_of_laid2 {W : World} (h : laidMetH Tryz.prog laidL2 W) : Laid W := handle_of_laid (show laidMetH Tryz.prog laidL W from ⟨Go.laidMet_nil _ _, (laid_parts h).2⟩)

def tabZ : List Int := Lib.deBruijn64tab.map fun (n : Nat) => (n : Int)
theorem tab_of_laid {W : World} (h : laidMetH Tryz.prog laidL2 W) : TabAt 2 Lib.deBruijn64tab W := by
  obtain ⟨ps, ⟨g, t, cs, fuel, p, q, hg, ht, hv, hd, _, _⟩, _, _⟩ := (laid_parts h).1
  obtain rfl := Option.some.inj ((show Tryz.prog.globalNamed "math/bits.deBruijn64tab" = some 2 by kernel_rfl).symm.trans hg)
  obtain rfl := Option.some.inj ((show (Tryz.prog.globals[2]?).map (·.type) = some 169 by kernel_rfl).symm.trans ht)
  obtain ⟨xs, m, _, ex, _, hl, hel⟩ := DataW.trod_array Tryz.underlying169 hd
  intro r hr
  have hlen : tabZ.length = 64 := by kernel_rfl
  have hr' : r < 64 := hr
  have c5 : Tryz.prog.cellsOf 5 = 1 := by kernel_rfl
  have hE := hel r hr'
  rw [c5, Nat.mul_one, List.getElem?_eq_getElem (by omega)] at hE
  obtain ⟨z, e1, e2, _⟩ := DataW.trod_int Tryz.underlying5 hE
  have e3 : (xs.map (·.1)) = tabZ.map fun n => .lit (.int .u8 n) := ((DataW.agg.inj (Prod.mk.inj ex).1).symm : _)
  have e4 : (xs.map (·.1))[r]? = (tabZ.map fun n => (DataW.lit (.int .u8 n) : DataW Unit))[r]? := by rw [e3]
  rw [List.getElem?_map, List.getElem?_map, List.getElem?_eq_getElem (by omega : r < xs.length), List.getElem?_eq_getElem (by omega : r < tabZ.length), e2] at e4
  have hz : z = ((Lib.deBruijn64tab.getD r 0 : Nat) : Int) := by
    simp only [Option.map_some, Option.some.injEq, DataW.lit.injEq, Lit.int.injEq, true_and] at e4
    rw [e4]
    unfold tabZ
    rw [List.getElem_map, List.getD, List.getElem?_eq_getElem hr]; rfl
  rw [World.var?_cell hg hv r, ← hz]
  have h0 : ((cs.toList.drop r).take 1)[0]? = some (.int .u8 z) := by rw [e1]; rfl
  simpa using h0

/-- A world that meets the condition: the settled one, the two variables' cells laid. -/
noncomputable def laidWorld2 (os : Os) : World :=
  let w0 := laidWorld os
  { w0 with heap := w0.heap.modify 2 fun
      | .cells _ t frozen => .cells (tabZ.map fun n => Value.int .u8 n).toArray t frozen
      | o => o }
theorem laidWorld2_met (os : Os) (args : Array Value) : laidMetH Tryz.prog laidL2 ((laidWorld2 os).forCall (fun _ _ => 0) ⟨#[], args, []⟩).memory :=
  laidMetH_of_parts (laidMet_of_run' 8 (by kernel_rfl) (by kernel_rfl)) (by kernel_rfl)
end Go.Proofs.YtgelingkifafeaaGreatDoor
