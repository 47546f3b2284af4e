import Derived.Test.YtgelingkifafeaaGreatDoorBu08
import Derived.Test.YtgelingkifafeaaGreatDoorBu11
import Derived.Lib.SmallJoins
/- Params as an argument. -/
namespace Go.Proofs.YtgelingkifafeaaGreatDoor
open Go.ChangeShapes Go.WideShapes Go.ChangeAt Go.RowKit Go.Deep Go.Joins
set_option maxRecDepth 100000
set_option linter.unusedVariables false

theorem u64_of_wf {n : Int} (h : (Lit.int .u64 n).wf = true) : ∃ x : Nat, x < 2 ^ 64 ∧ n = (x : Int) := by
  have : IntKind.min .u64 ≤ n ∧ n ≤ IntKind.max .u64 := by simpa [Lit.wf] using h
  simp [IntKind.min, IntKind.max, IntKind.signed, IntKind.bits] at this
  exact ⟨n.toNat, by omega, by omega⟩

section
variable {H : Type} {enc : TypeId × Value → H}
theorem open_params {W : World} {r : Reach} {b0 base : Nat} {spare : Nat → Bool} {held : Bool} {v : Value} {d : DataW H} {p : List MemPlace} (hv : Value.okWide Tryz.prog W r b0 23 v) (h : DataW.Trod enc Tryz.prog W base spare held 23 v d p) :
    ∃ D L G : Int, v = PV D L G := by
  obtain ⟨v0, v1, v2, y0, y1, y2, n, rfl, _, _, h0, h1, h2⟩ := open_agg3 Tryz.underlying23 (by kernel_rfl) (by kernel_rfl) hv h
  obtain ⟨D, e0, _, _⟩ := DataW.trod_int Tryz.underlying3 h0
  obtain ⟨L, e1, _, _⟩ := DataW.trod_int Tryz.underlying3 h1
  obtain ⟨G, e2, _, _⟩ := DataW.trod_int Tryz.underlying3 h2
  simp only [List.cons.injEq, and_true] at e0 e1 e2
  exact ⟨D, L, G, by rw [e0, e1, e2]⟩
end
end Go.Proofs.YtgelingkifafeaaGreatDoor
