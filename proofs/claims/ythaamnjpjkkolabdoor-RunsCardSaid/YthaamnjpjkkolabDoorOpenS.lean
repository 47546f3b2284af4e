import Derived.Test.YthaamnjpjkkolabDoorPost
import Derived.Test.YthaamnjpjkkolabDoorStep
import Derived.Lib.SmallJoins
import Derived.Deep.Slices
import Derived.Deep.Fields
import Derived.ChangeSame
/- A program as an argument. -/
namespace Go.Proofs.YthaamnjpjkkolabDoor
open Go.ChangeShapes Go.WideShapes Go.ChangeAt Go.RowKit Go.Deep Go.Joins
set_option maxRecDepth 100000
set_option linter.unusedVariables false

section
variable {H : Type} {enc : TypeId × Value → H} {P : Program} {w : World} {base : Nat} {spare : Nat → Bool} {held : Bool}
/-- (after the guide's page on structs) A slice of structs of one-cell fields. -/
theorem open_slice_fields {t e : TypeId} {fs : Array Field} {fuel : Nat} {cs : List Value} {x : DataW H × List MemPlace} (ht : P.underlying t = some (.slice e)) (he : P.underlying e = some (.struct fs))
    (hone : oneCellFields P fs = true) (hC : P.cellsOf e = fs.size) (h : DataW.trod enc P w base spare held fuel t cs = some x) :
    (cs = [.slice none 0 0] ∧ x = (.nil, [])) ∨
    ∃ (a : Addr) (len cap m : Nat) (D : Nat → DataW H) (Pl : Nat → List MemPlace), cs = [.slice (some a) len cap] ∧ base ≤ a.block ∧ len ≤ cap ∧ cap ≤ maxLen ∧ m = (if spare a.block then cap else len) ∧
      x = (.slice ((List.range len).map D) ((List.range (m - len)).map fun j => D (len + j)), MemPlace.row a (m * fs.size) ++ (List.range m).flatMap Pl) ∧
      ∀ i, i < m → ∃ (ys : List (DataW H × List MemPlace)) (n : Nat), D i = .agg (ys.map (·.1)) ∧ Pl i = ys.flatMap (·.2) ∧ ys.length = fs.size ∧
        ∀ (j : Nat) (f : Field), fs[j]? = some f → ∃ (v : Value) (y : DataW H × List MemPlace), w.cell? (a.add (i * fs.size + j)) = some v ∧ ys[j]? = some y ∧ DataW.trod enc P w base spare held n f.type [v] = some y := by
  rcases open_slice ht h with h0 | ⟨a, len, cap, m, n, D, Pl, hcs, hb, hl, hm, hmm, hx, hi⟩
  · exact .inl h0
  · refine .inr ⟨a, len, cap, m, D, Pl, hcs, hb, hl, hm, hmm, by rw [hC] at hx; exact hx, fun i him => ?_⟩
    obtain ⟨cs', hc, ht'⟩ := hi i him
    rw [hC] at hc
    obtain ⟨ys, n', hn', hy, hlen, hyl, hf⟩ := DataW.trod_struct he ht'
    obtain ⟨_, hcl, hat⟩ := World.cells?_some hc
    simp only [Prod.mk.injEq] at hy
    refine ⟨ys, n', hy.1, hy.2, hyl, fun j f hj => ?_⟩
    obtain ⟨ho, hk⟩ := hone_of hone j f hj
    have hjl : j < fs.size := (Array.getElem?_eq_some_iff.1 hj).1
    have hcell := hat j hjl
    have hv : cs'[j]? = some (cs'[j]'(by omega)) := List.getElem?_eq_getElem (by omega)
    have h1 := hf j f hj
    rw [ho, hk] at h1
    have hone' : (cs'.drop j).take 1 = [cs'[j]'(by omega)] := by
      rw [List.drop_eq_getElem_cons (by omega)]
      rfl
    rw [hone'] at h1
    have hys : ys[j]? = some (ys[j]'(by omega)) := List.getElem?_eq_getElem (by omega)
    refine ⟨_, _, ?_, hys, h1.trans hys⟩
    rw [← Go.Deep.add_add, hcell, hv]
end

section
variable {H : Type} {enc : TypeId × Value → H}

theorem open_steps {W : World} {fuel : Nat} {v : Value} {x : DataW H × List MemPlace} (h : DataW.trod enc Tryd.prog W 0 (fun _ => true) true fuel 37 [v] = some x) :
    ∃ (a : Option Addr) (b o n c : Nat) (S : Nat → Stp), v = .slice a n c ∧ Stps W a b o n c fun i => sc (S i) := by
  rcases open_slice_fields Tryd.underlying37 Tryd.underlying84 (by kernel_rfl) (by kernel_rfl) h with ⟨hcs, _⟩ | ⟨a, len, cap, m, D, Pl, hcs, _, hl, hm, hmm, _, hi⟩
  · obtain rfl : v = .slice none 0 0 := by simpa using hcs
    exact ⟨none, 0, 0, 0, 0, fun _ => ⟨0, 0, 0, 0⟩, rfl, ⟨fun h => absurd h (by omega), Rd.empty _ _ _ _, Nat.le_refl _, by omega⟩⟩
  · obtain rfl : v = .slice (some a) len cap := by simpa using hcs
    obtain ⟨ab, ao, asp⟩ := a
    simp only [if_true] at hmm
    subst hmm
    have hasp : 0 < m → asp = none := by
      intro h0
      obtain ⟨ys, n', _, _, _, hf⟩ := hi 0 h0
      obtain ⟨v0, y0, c0, _, t0⟩ := hf 0 _ rfl
      simpa [Addr.add] using World.cell?_spot c0
    have key : ∀ i, i < m → ∃ s : Stp, asp = none ∧ ∀ j, j < 4 → W.cell? ⟨ab, ao + (i * 4 + j), none⟩ = some (sc s j) := by
      intro i him
      obtain ⟨ys, n', _, _, _, hf⟩ := hi i him
      obtain ⟨v0, y0, c0, _, t0⟩ := hf 0 _ rfl
      obtain ⟨v1, y1, c1, _, t1⟩ := hf 1 _ rfl
      obtain ⟨v2, y2, c2, _, t2⟩ := hf 2 _ rfl
      obtain ⟨v3, y3, c3, _, t3⟩ := hf 3 _ rfl
      obtain ⟨z0, e0, _, w0⟩ := DataW.trod_int Tryd.underlying82 t0
      obtain ⟨z1, e1, _, w1⟩ := DataW.trod_int Tryd.underlying3 t1
      obtain ⟨z2, e2, _, w2⟩ := DataW.trod_int Tryd.underlying3 t2
      obtain ⟨z3, e3, _, w3⟩ := DataW.trod_int Tryd.underlying5 t3
      simp only [List.cons.injEq, and_true] at e0 e1 e2 e3
      subst e0; subst e1; subst e2; subst e3
      obtain ⟨b0, rfl⟩ := byte_of_wf w0
      obtain ⟨b3, rfl⟩ := byte_of_wf w3
      have hs := hasp (by omega)
      subst hs
      refine ⟨⟨b0, z1, z2, b3⟩, rfl, fun j hj => ?_⟩
      simp only [show (#[_, _, _, _] : Array Field).size = 4 from rfl] at c0 c1 c2 c3
      rcases (show j = 0 ∨ j = 1 ∨ j = 2 ∨ j = 3 by omega) with rfl | rfl | rfl | rfl
      · rw [add_plain] at c0; exact c0
      · rw [add_plain] at c1; exact c1
      · rw [add_plain] at c2; exact c2
      · rw [add_plain] at c3; exact c3
    refine ⟨some ⟨ab, ao, asp⟩, ab, ao, len, m, fun i => if h : i < m then Classical.choose (key i h) else ⟨0, 0, 0, 0⟩, rfl, ⟨fun h => by rw [(Classical.choose_spec (key 0 (by omega))).1], fun i hi => ?_, hl, by unfold maxLen at hm; exact hm⟩⟩
    have h1 := (Classical.choose_spec (key (i / 4) (by omega))).2 (i % 4) (by omega)
    rw [show i / 4 * 4 + i % 4 = i by omega] at h1
    rw [h1]
    simp only [el4, dif_pos (show i / 4 < m by omega)]

/-- A program, as an argument. -/
theorem open_program {W : World} {r : Reach} {b0 : Nat} {v : Value} {d : DataW H} {p : List MemPlace} (hv : Value.okWide Tryd.prog W r b0 39 v) (h : DataW.Trod enc Tryd.prog W 0 (fun _ => true) true 39 v d p) :
    ∃ (regs : Int) (a : Option Addr) (b o n c : Nat) (S : Nat → Stp), v = .agg #[I regs, .slice a n c] ∧ Stps W a b o n c fun i => sc (S i) := by
  obtain ⟨v0, v1, y0, y1, n, rfl, _, _, h0, h1⟩ := open_agg2 Tryd.underlying39 (by kernel_rfl) (by kernel_rfl) hv h
  obtain ⟨D, e0, _, _⟩ := DataW.trod_int Tryd.underlying3 h0
  simp only [List.cons.injEq, and_true] at e0
  obtain ⟨a, b, o, n, c, S, rfl, hs⟩ := open_steps h1
  exact ⟨D, a, b, o, n, c, S, by rw [e0], hs⟩
end
end Go.Proofs.YthaamnjpjkkolabDoor
