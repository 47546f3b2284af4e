import Derived.Test.YthaamnjpjkkolabDoorMaHeap
import Derived.ProofKit
import Derived.OpenShut
import Derived.SizedLaws
import Derived.Deep.Modes
import Derived.Deep.Frames
import Derived.Deep.Slices
import Derived.Deep.Matrix
import Derived.Test.YthaamnjpjkkolabDoorRows
import Derived.Test.YthaamnjpjkkolabDoorTell
import Derived.ChangeVars
import Derived.JoinedOf
import Derived.RowKitTokens
import Derived.LaidLaws
import Derived.LaidHandle
import Derived.Stop.Joined
import Derived.Shelf.Spec.TrailingZeros
import Derived.Lib.LaidU8
import Derived.LaidMore
import Derived.Test.YthaamnjpjkkolabDoorMaMat
import Derived.Lib.SmallJoins
/- From a law's walk to its row: what came in reads as it did. -/
namespace Go.Proofs.YthaamnjpjkkolabDoor
open Go.ChangeShapes Go.WideShapes Go.ChangeAt Go.RowKit Go.Deep
set_option maxRecDepth 100000
set_option linter.unusedVariables false

theorem ownK : ownKnob Tryd.prog.godebug = none := by kernel_rfl
theorem laidOutK : laidOutB Tryd.prog = true := by kernel_rfl
theorem reach_eq : reachBytes = 140737488351232 := rfl

section
variable {H : Type} {enc : TypeId × Value → H} {P : Program}

theorem trodAll_below (hl : laidOutB P = true) {W W' : World} (hb : Below W.heap.size W W') : ∀ {ts : List TypeId} {vs : List Value} {ds : List (DataW H)} {ps : List MemPlace},
    (ts.all fun t => P.readableRec t && decide (t < P.types.size)) = true → DataW.TrodAll enc P W 0 (fun _ => true) true ts vs ds ps → (∀ x ∈ ps, x.block < W.heap.size) →
    DataW.TrodAll enc P W' 0 (fun x => decide (x < W.heap.size)) true ts vs ds ps
  | [], _, _, _, _, h, _ => by
    obtain ⟨rfl, rfl, rfl⟩ := trodAll_nil h
    exact trodAll_mk0
  | t :: ts, _, _, _, hr, h, hlt => by
    obtain ⟨v, vs, d, ds, p, q, rfl, rfl, rfl, h1, h2⟩ := trodAll_cons h
    simp only [List.all_cons, Bool.and_eq_true, decide_eq_true_eq] at hr
    exact trodAll_cons_mk (Below.trod hl hr.1.1 hr.1.2 h1 hb (fun x hx => hlt x (List.mem_append_left _ hx))) (trodAll_below hl hb (by simpa using hr.2) h2 (fun x hx => hlt x (List.mem_append_right _ hx)))

/-- A law's row behind its walk: true; what came in reads as it did. -/
theorem law_post {f : Func} {s : ChangeSpec} {apart : Bool} {W W' : World} {args : Array Value} {ds : List (DataW H)} {before : List MemPlace} {tb : TypeId} (hl : laidOutB P = true)
    (hb : P.underlying tb = some .bool) (hrt : f.resultTypes = #[tb]) (hrd : (f.params.toList.all fun t => P.readableRec t && decide (t < P.types.size)) = true) (hv : s.vars = [])
    (hres : (s.fn H ds).results = [.lit (.bool true)]) (hargs : (s.fn H ds).args = ds) (hvars : (s.fn H ds).vars = [])
    (hW : DataW.Whole enc P f.params.toList s.vars apart W args.toList ds [] before) (hB : Below W.heap.size W W') :
    s.post enc P f apart true false false W args (.bool true) W' := by
  have hW2 := hW
  obtain ⟨p, q, hA, hV, rfl, _, _⟩ := hW
  rw [hv] at hV
  obtain ⟨_, rfl⟩ := trodVars_none hV
  refine ⟨ds, [], p ++ [], [], p, [], hW2, ?_, ?_, ?_, hB.frame _, fun h => by cases h⟩
  · rw [List.append_nil, hres, hrt]
    exact trodAll_mk1 (shut_bool hb true)
  · rw [List.append_nil, hargs]
    refine trodAll_below hl hB hrd hA fun x hx => hW2.lt x (by simp [hx])
  · rw [List.append_nil, hvars, hv]; rfl

theorem weightsAll_mem {e : TypeId} : ∀ {l : List (DataW H)} {d : DataW H}, d ∈ l → ∀ n ∈ d.weights P e, n ∈ DataW.weightsAll P e l
  | d' :: r, d, hd, n, hn => by
    simp only [DataW.weightsAll, List.mem_append]
    rcases List.mem_cons.1 hd with rfl | h
    · exact Or.inl hn
    · exact Or.inr (weightsAll_mem h n hn)

theorem sized_inner {ts : List TypeId} {ds : List (DataW H)} (h : (DataW.weightsEach P ts ds).all (· ≤ reachBytes) = true) {j : Nat} {t e q : TypeId} {elems spare e' sp' : List (DataW H)}
    (ht : ts[j]? = some t) (hd : ds[j]? = some (.slice elems spare)) (hu : P.underlying t = some (.slice e)) (hu2 : P.underlying e = some (.slice q)) (hx : DataW.slice e' sp' ∈ elems) : (e'.length + sp'.length) * P.bytesOf q ≤ reachBytes := by
  refine of_decide_eq_true (List.all_eq_true.1 h _ (DataW.weights_mem_each ht hd _ ?_))
  simp only [DataW.weights, hu, List.mem_cons, List.mem_append]
  exact Or.inr (Or.inl (weightsAll_mem hx _ (by simp [DataW.weights, hu2])))
end

theorem cellsU8 : Tryd.prog.cellsOf 5 = 1 := by kernel_rfl
theorem cellsBs : Tryd.prog.cellsOf 28 = 1 := by kernel_rfl
theorem bytesU8 : Tryd.prog.bytesOf 5 = 1 := by kernel_rfl
theorem bytesBs : Tryd.prog.bytesOf 28 = 24 := by kernel_rfl

theorem getD_wf {zs : List Int} (h : ∀ n ∈ zs, (Lit.int .u8 n).wf = true) (i : Nat) : ((b8 (zs.getD i 0)).toNat : Int) = zs.getD i 0 := by
  have key : (Lit.int .u8 (zs.getD i 0)).wf = true := by
    rw [List.getD_eq_getElem?_getD]
    cases e : zs[i]? with
    | none => decide
    | some z => exact h z (List.mem_of_getElem? e)
  obtain ⟨x, hx⟩ := byte_of_wf key
  rw [hx, b8_nat]

section
variable {H : Type} {enc : TypeId × Value → H}

/-- A list of rows of bytes, as an argument. -/
theorem open_rws {W : World} {ts : List TypeId} {ds : List (DataW H)} (hsz : (DataW.weightsEach Tryd.prog ts ds).all (· ≤ reachBytes) = true) {j : Nat} {d : DataW H} {ps : List MemPlace} {v : Value} (ht : ts[j]? = some 24) (hd : ds[j]? = some d)
    (hok : ∃ a n c, v = .slice a n c) (h : DataW.Trod enc Tryd.prog W 0 (fun _ => true) true 24 v d ps) : ∃ a b o n c S, v = .slice a n c ∧ Rws W a b o n c S := by
  obtain ⟨a0, n0, c0, rfl⟩ := hok
  obtain ⟨fuel, hf⟩ := h
  rcases open_int_rows Tryd.underlying24 Tryd.underlying28 Tryd.underlying5 cellsBs cellsU8 hf with ⟨hcs, hx⟩ | ⟨a, len, cap, A, L, C, Z, hcs, _, hl, hm, hx, hrows⟩
  · simp [Value.cells] at hcs
    obtain ⟨rfl, rfl, rfl⟩ := hcs
    exact ⟨none, 0, 0, 0, 0, fun _ => ⟨none, 0, 0, 0, 0, fun _ => 0⟩, rfl, fun h => absurd h (by omega), Rd.empty _ _ _ _, fun i hi => absurd hi (by omega), Nat.le_refl _, by omega⟩
  · simp [Value.cells] at hcs
    obtain ⟨rfl, rfl, rfl⟩ := hcs
    simp only [Prod.mk.injEq] at hx
    obtain ⟨rfl, rfl⟩ := hx
    have hout := sized_slice hsz ht hd Tryd.underlying24
    simp only [List.length_map, List.length_range, bytesBs, reach_eq] at hout
    obtain ⟨gb, go, gs⟩ := a
    have hgs : 0 < n0 → gs = none := fun h => by simpa [Addr.add] using World.cell?_spot (hrows 0 (by omega)).1
    have hcap : ∀ r, r < n0 → C r ≤ 140737488351232 := fun r hr => by
      obtain ⟨_, h1, _, h2, _, h3, _⟩ := hrows r (by omega)
      cases hA : A r with
      | none => have := h3 hA; omega
      | some a' =>
        have hin := sized_inner hsz ht hd Tryd.underlying24 Tryd.underlying28 (e' := lits .u8 ((Z r).take (L r))) (sp' := lits .u8 ((Z r).drop (L r)))
          (List.mem_map.2 ⟨r, List.mem_range.2 hr, by simp [intRow, hA]⟩)
        simp only [lits, List.length_map, List.length_take, List.length_drop, bytesU8, reach_eq] at hin
        omega
    refine ⟨some ⟨gb, go, gs⟩, gb, go, n0, c0, fun r => ⟨A r, ((A r).getD default).block, ((A r).getD default).off, L r, C r, fun i => b8 ((Z r).getD i 0)⟩, rfl, fun h => by rw [hgs h], fun r hr => ?_, fun r hr => ?_, hl, by omega⟩
    · have := (hrows r (by omega)).1
      have hg := hgs (by omega)
      subst hg
      rwa [add_plain] at this
    · obtain ⟨_, h1, _, h2, hw, h3, h4⟩ := hrows r (by omega)
      have key : ∀ i, i < L r → A r = some ⟨((A r).getD default).block, ((A r).getD default).off, none⟩ ∧ W.cell? ⟨((A r).getD default).block, ((A r).getD default).off + i, none⟩ = some (.int .u8 ((Z r).getD i 0)) := fun i hi => by
        cases hA : A r with
        | none => have := h3 hA; omega
        | some a' =>
          obtain ⟨ab, ao, asp⟩ := a'
          obtain ⟨_, hcell⟩ := h4 _ hA
          have has : asp = none := by simpa [Addr.add] using World.cell?_spot (hcell 0 (by omega))
          subst has
          exact ⟨rfl, by have := hcell i (by omega); rwa [add_plain] at this⟩
      refine ⟨fun h => (key 0 h).1, fun i hi => ?_, h1, by have := hcap r hr; show C r ≤ _; omega⟩
      rw [(key i hi).2]
      show _ = some (Value.int .u8 ((b8 ((Z r).getD i 0)).toNat : Int))
      rw [getD_wf hw]
end
end Go.Proofs.YthaamnjpjkkolabDoor

/- From the row's listed variable to its cell; a world that meets the row (after the guide's worked example ToyasProofs). -/
namespace Go.Proofs.YthaamnjpjkkolabDoor
open Go.ChangeShapes Go.WideShapes Go.RowKit
set_option maxRecDepth 100000
set_option linter.unusedVariables false

def laidL : List (String × DataW Unit) := [("errors.errorType", Rows.laid_errors_errorType)]
theorem laid_et : Tryd.prog.globalNamed "errors.errorType" = some 0 := by kernel_rfl
theorem laid_rt : (Tryd.prog.cutTypes.find? (·.1 == "internal/reflectlite.rtype")).map (·.2) = some 128 := by kernel_rfl
theorem laid_row : ((List.range 186).filter fun t => Tryd.prog.rowNamed t [101, 114, 114, 111, 114]) = [30] := by kernel_rfl
theorem laid_size : Tryd.prog.types.size = 186 := by kernel_rfl

/-- What the row's condition gives a walk: the variable's one cell. -/
theorem handle_of_laid {W : World} (h : laidMetH Tryd.prog laidL W) : Laid W := by
  have h' : laidMet Tryd.prog [] W ∧ handlesMet Tryd.prog laidL W := h
  obtain ⟨name, u, ty, e1, e2, e3, e4, e5⟩ := h'.2 _ (List.mem_singleton.2 rfl)
  have en : name = [101, 114, 114, 111, 114] := (Option.some.inj e1).symm
  subst en
  obtain rfl := Option.some.inj (laid_rt.symm.trans e2)
  have hm : ty ∈ (List.range 186).filter fun t => Tryd.prog.rowNamed t [101, 114, 114, 111, 114] := List.mem_filter.2 ⟨List.mem_range.2 (by rw [← laid_size]; exact e3), e4⟩
  rw [laid_row] at hm
  obtain rfl := List.mem_singleton.1 hm
  have hh : typeHandle Tryd.prog 30 = .pointer (some ⟨2, 30, none⟩) := by kernel_rfl
  rw [hh] at e5
  unfold Laid
  simpa using World.var?_cell laid_et e5 0

/-- A world that meets the condition: the settled one, the variable's cell laid. -/
noncomputable def laidWorld (os : Os) : World :=
  let w0 := World.holding Tryd.prog os ⟨#[], #[], []⟩
  { w0 with heap := w0.heap.modify 0 fun
      | .cells _ t frozen => .cells #[.iface 128 (.agg #[.pointer (some ⟨2, 30, none⟩)])] t frozen
      | o => o }
theorem laidWorld_met (os : Os) (args : Array Value) : laidMetH Tryd.prog laidL ((laidWorld os).forCall (fun _ _ => 0) ⟨#[], args, []⟩).memory :=
  laidMetH_of_parts (laidMet_nil _ _) (by kernel_rfl)
end Go.Proofs.YthaamnjpjkkolabDoor

/- From the row's two listed variables to their cells; a world that meets the row. -/
namespace Go.Proofs.YthaamnjpjkkolabDoor
open Go.ChangeShapes Go.WideShapes Go.RowKit Go.Shelf
set_option maxRecDepth 100000
set_option linter.unusedVariables false

def laidL2 : List (String × DataW Unit) := [("math/bits.deBruijn64tab", Rows.laid_math_bits_deBruijn64tab), ("errors.errorType", Rows.laid_errors_errorType)]

theorem laid_parts {W : World} (h : laidMetH Tryd.prog laidL2 W) : laidMet Tryd.prog [("math/bits.deBruijn64tab", Rows.laid_math_bits_deBruijn64tab)] W ∧ handlesMet Tryd.prog [("errors.errorType", Rows.laid_errors_errorType)] W := h
theorem handle_of_laid2 {W : World} (h : laidMetH Tryd.prog laidL2 W) : Laid W := handle_of_laid (show laidMetH Tryd.prog laidL W from ⟨Go.laidMet_nil _ _, (laid_parts h).2⟩)

def tabZ : List Int := Lib.deBruijn64tab.map fun (n : Nat) => (n : Int)
theorem tab_of_laid {W : World} (h : laidMetH Tryd.prog laidL2 W) : TabAt 1 Lib.deBruijn64tab W := by
  obtain ⟨ps, ⟨g, t, cs, fuel, p, q, hg, ht, hv, hd, _, _⟩, _, _⟩ := (laid_parts h).1
  obtain rfl := Option.some.inj ((show Tryd.prog.globalNamed "math/bits.deBruijn64tab" = some 1 by kernel_rfl).symm.trans hg)
  obtain rfl := Option.some.inj ((show (Tryd.prog.globals[1]?).map (·.type) = some 156 by kernel_rfl).symm.trans ht)
  obtain ⟨xs, m, _, ex, _, hl, hel⟩ := DataW.trod_array Tryd.underlying156 hd
  intro r hr
  have hlen : tabZ.length = 64 := by kernel_rfl
  have hr' : r < 64 := hr
  have c5 : Tryd.prog.cellsOf 5 = 1 := by kernel_rfl
  have hE := hel r hr'
  rw [c5, Nat.mul_one, List.getElem?_eq_getElem (by omega)] at hE
  obtain ⟨z, e1, e2, _⟩ := DataW.trod_int Tryd.underlying5 hE
  have e3 : (xs.map (·.1)) = tabZ.map fun n => .lit (.int .u8 n) := ((DataW.agg.inj (Prod.mk.inj ex).1).symm : _)
  have e4 : (xs.map (·.1))[r]? = (tabZ.map fun n => (DataW.lit (.int .u8 n) : DataW Unit))[r]? := by rw [e3]
  rw [List.getElem?_map, List.getElem?_map, List.getElem?_eq_getElem (by omega : r < xs.length), List.getElem?_eq_getElem (by omega : r < tabZ.length), e2] at e4
  have hz : z = ((Lib.deBruijn64tab.getD r 0 : Nat) : Int) := by
    simp only [Option.map_some, Option.some.injEq, DataW.lit.injEq, Lit.int.injEq, true_and] at e4
    rw [e4]
    unfold tabZ
    rw [List.getElem_map, List.getD, List.getElem?_eq_getElem hr]; rfl
  rw [World.var?_cell hg hv r, ← hz]
  have h0 : ((cs.toList.drop r).take 1)[0]? = some (.int .u8 z) := by rw [e1]; rfl
  simpa using h0

/-- A world that meets the condition: the settled one, the two variables' cells laid. -/
noncomputable def laidWorld2 (os : Os) : World :=
  let w0 := laidWorld os
  { w0 with heap := w0.heap.modify 1 fun
      | .cells _ t frozen => .cells (tabZ.map fun n => Value.int .u8 n).toArray t frozen
      | o => o }
theorem laidWorld2_met (os : Os) (args : Array Value) : laidMetH Tryd.prog laidL2 ((laidWorld2 os).forCall (fun _ _ => 0) ⟨#[], args, []⟩).memory :=
  laidMetH_of_parts (laidMet_of_run' 8 (by kernel_rfl) (by kernel_rfl)) (by kernel_rfl)
end Go.Proofs.YthaamnjpjkkolabDoor

/- Params as an argument. -/
namespace Go.Proofs.YthaamnjpjkkolabDoor
open Go.ChangeShapes Go.WideShapes Go.ChangeAt Go.RowKit Go.Deep Go.Joins
set_option maxRecDepth 100000
set_option linter.unusedVariables false

theorem u64_of_wf {n : Int} (h : (Lit.int .u64 n).wf = true) : ∃ x : Nat, x < 2 ^ 64 ∧ n = (x : Int) := by
  have : IntKind.min .u64 ≤ n ∧ n ≤ IntKind.max .u64 := by simpa [Lit.wf] using h
  simp [IntKind.min, IntKind.max, IntKind.signed, IntKind.bits] at this
  exact ⟨n.toNat, by omega, by omega⟩

section
variable {H : Type} {enc : TypeId × Value → H}
theorem open_params {W : World} {r : Reach} {b0 base : Nat} {spare : Nat → Bool} {held : Bool} {v : Value} {d : DataW H} {p : List MemPlace} (hv : Value.okWide Tryd.prog W r b0 23 v) (h : DataW.Trod enc Tryd.prog W base spare held 23 v d p) :
    ∃ D L G : Int, v = PV D L G := by
  obtain ⟨v0, v1, v2, y0, y1, y2, n, rfl, _, _, h0, h1, h2⟩ := open_agg3 Tryd.underlying23 (by kernel_rfl) (by kernel_rfl) hv h
  obtain ⟨D, e0, _, _⟩ := DataW.trod_int Tryd.underlying3 h0
  obtain ⟨L, e1, _, _⟩ := DataW.trod_int Tryd.underlying3 h1
  obtain ⟨G, e2, _, _⟩ := DataW.trod_int Tryd.underlying3 h2
  simp only [List.cons.injEq, and_true] at e0 e1 e2
  exact ⟨D, L, G, by rw [e0, e1, e2]⟩
end
end Go.Proofs.YthaamnjpjkkolabDoor
