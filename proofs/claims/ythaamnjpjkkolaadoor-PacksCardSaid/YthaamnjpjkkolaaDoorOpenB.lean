import Derived.Test.YthaamnjpjkkolaaDoorOpenS
/- Bytes as an argument. -/
namespace Go.Proofs.YthaamnjpjkkolaaDoor
open Go.ChangeShapes Go.WideShapes Go.ChangeAt Go.RowKit Go.Deep Go.Joins
set_option maxRecDepth 100000
set_option linter.unusedVariables false

theorem open_bytes {H : Type} {enc : TypeId × Value → H} {W : World} {r : Reach} {b0 : Nat} {v : Value} {d : DataW H} {p : List MemPlace} (hv : Value.okWide Tryd.prog W r b0 37 v) (h : DataW.Trod enc Tryd.prog W 0 (fun _ => true) true 37 v d p) :
    ∃ (a : Option Addr) (b o n c : Nat) (x : Nat → UInt8), v = .slice a n c ∧ (0 < n → a = some ⟨b, o, none⟩) ∧ Rd W b o n (bs x) ∧ n ≤ c ∧ c ≤ 9223372036854775807 := by
  obtain ⟨a0, n0, c0, rfl⟩ := okWide_slice Tryd.underlying37 hv
  obtain ⟨fuel, hf⟩ := h
  rcases open_ints Tryd.underlying37 Tryd.underlying5 cellsU8 hf with ⟨hcs, _⟩ | ⟨a, len, cap, zs, hcs, _, hl, hm, hlen, _, hcell, hw⟩
  · simp [Value.cells] at hcs
    obtain ⟨rfl, rfl, rfl⟩ := hcs
    exact ⟨none, 0, 0, 0, 0, fun _ => 0, rfl, fun h => absurd h (by omega), Rd.empty _ _ _ _, Nat.le_refl _, by omega⟩
  · simp [Value.cells] at hcs
    obtain ⟨rfl, rfl, rfl⟩ := hcs
    simp only [if_true] at hlen
    obtain ⟨ab, ao, asp⟩ := a
    have hs : 0 < n0 → asp = none := fun h0 => by simpa [Addr.add] using World.cell?_spot (hcell 0 (by omega))
    refine ⟨some ⟨ab, ao, asp⟩, ab, ao, n0, c0, fun i => b8 (zs.getD i 0), rfl, fun h0 => by rw [hs h0], fun i hi => ?_, hl, by unfold maxLen at hm; exact hm⟩
    have h1 := hcell i (by omega)
    have h2 := hs (by omega)
    subst h2
    rw [add_plain] at h1
    rw [h1]
    show _ = some (Value.int .u8 ((b8 (zs.getD i 0)).toNat : Int))
    rw [getD_wf hw]
end Go.Proofs.YthaamnjpjkkolaaDoor
