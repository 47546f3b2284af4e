import Derived.Test.YthaamnjpjkkolabDoorRunS
/- Outputs in memory, to be read. -/
namespace Go.Proofs.YthaamnjpjkkolabDoor
open Go.RowKit Go.Proofs
set_option maxRecDepth 100000
set_option linter.unusedVariables false

/-- A list of outputs that lies in memory, to be read. -/
theorem Outs.els {base te N : Nat} {w : World} {v : Value} {L : List (Int × (Nat → UInt8))} {γ : Nat → Nat} (h : Outs base te w v L N γ) :
    ∃ a b c, v = .slice a L.length c ∧ Els w a b 0 2 L.length c (outF γ N L) := by
  obtain ⟨a, b, c, rfl, he, _⟩ := h.vz.shape
  exact ⟨a, b, c, rfl, he⟩

theorem Els.at0 {w : World} {a : Option Addr} {b n c : Nat} {f : Nat → Nat → Value} (h : Els w a b 0 2 n c f) {k : Nat} (hk : k < n) : w.cell? ⟨b, k * 2, none⟩ = some (f k 0) := by
  have := h.at hk (show 0 < 2 by omega); rwa [Nat.zero_add, Nat.add_zero] at this
theorem Els.at1 {w : World} {a : Option Addr} {b n c : Nat} {f : Nat → Nat → Value} (h : Els w a b 0 2 n c f) {k : Nat} (hk : k < n) : w.cell? ⟨b, k * 2 + 1, none⟩ = some (f k 1) := by
  have := h.at hk (show 1 < 2 by omega); rwa [Nat.zero_add] at this

end Go.Proofs.YthaamnjpjkkolabDoor
