import Derived.Test.YtgelingkifafeaaGreatDoorBu07
import Derived.ProofKit
import Derived.OpenShut
import Derived.SizedLaws
import Derived.Deep.Modes
import Derived.Deep.Frames
import Derived.Deep.Slices
import Derived.Deep.Matrix
/- From a law's walk to its row: what came in reads as it did. -/
namespace Go.Proofs.YtgelingkifafeaaGreatDoor
open Go.ChangeShapes Go.WideShapes Go.ChangeAt Go.RowKit Go.Deep
set_option maxRecDepth 100000
set_option linter.unusedVariables false

theorem ownK : ownKnob Tryz.prog.godebug = none := by kernel_rfl
theorem laidOutK : laidOutB Tryz.prog = true := by kernel_rfl
theorem reach_eq : reachBytes = 140737488351232 := rfl

section
variable {H : Type} {enc : TypeId × Value → H} {P : Program}

theorem trodAll_below (hl : laidOutB P = true) {W W' : World} (hb : Below W.heap.size W W') : ∀ {ts : List TypeId} {vs : List Value} {ds : List (DataW H)} {ps : List MemPlace},
    (ts.all fun t => P.readableRec t && decide (t < P.types.size)) = true → DataW.TrodAll enc P W 0 (fun _ => true) true ts vs ds ps → (∀ x ∈ ps, x.block < W.heap.size) →
    DataW.TrodAll enc P W' 0 (fun x => decide (x < W.heap.size)) true ts vs ds ps
  | [], _, _, _, _, h, _ => by
    obtain ⟨rfl, rfl, rfl⟩ := trodAll_nil h
    exact trodAll_mk0
  | t :: ts, _, _, _, hr, h, hlt => by
    obtain ⟨v, vs, d, ds, p, q, rfl, rfl, rfl, h1, h2⟩ := trodAll_cons h
    simp only [List.all_cons, Bool.and_eq_true, decide_eq_true_eq] at hr
    exact trodAll_cons_mk (Below.trod hl hr.1.1 hr.1.2 h1 hb (fun x hx => hlt x (List.mem_append_left _ hx))) (trodAll_below hl hb (by simpa using hr.2) h2 (fun x hx => hlt x (List.mem_append_right _ hx)))

/-- A law's row behind its walk: true; what came in reads as it did. -/
theorem law_post {f : Func} {s : ChangeSpec} {apart : Bool} {W W' : World} {args : Array Value} {ds : List (DataW H)} {before : List MemPlace} {tb : TypeId} (hl : laidOutB P = true)
    (hb : P.underlying tb = some .bool) (hrt : f.resultTypes = #[tb]) (hrd : (f.params.toList.all fun t => P.readableRec t && decide (t < P.types.size)) = true) (hv : s.vars = [])
    (hres : (s.fn H ds).results = [.lit (.bool true)]) (hargs : (s.fn H ds).args = ds) (hvars : (s.fn H ds).vars = [])
    (hW : DataW.Whole enc P f.params.toList s.vars apart W args.toList ds [] before) (hB : Below W.heap.size W W') :
    s.post enc P f apart true false false W args (.bool true) W' := by
  have hW2 := hW
  obtain ⟨p, q, hA, hV, rfl, _, _⟩ := hW
  rw [hv] at hV
  obtain ⟨_, rfl⟩ := trodVars_none hV
  refine ⟨ds, [], p ++ [], [], p, [], hW2, ?_, ?_, ?_, hB.frame _, fun h => by cases h⟩
  · rw [List.append_nil, hres, hrt]
    exact trodAll_mk1 (shut_bool hb true)
  · rw [List.append_nil, hargs]
    refine trodAll_below hl hB hrd hA fun x hx => hW2.lt x (by simp [hx])
  · rw [List.append_nil, hvars, hv]; rfl

theorem weightsAll_mem {e : TypeId} : ∀ {l : List (DataW H)} {d : DataW H}, d ∈ l → ∀ n ∈ d.weights P e, n ∈ DataW.weightsAll P e l
  | d' :: r, d, hd, n, hn => by
    simp only [DataW.weightsAll, List.mem_append]
    rcases List.mem_cons.1 hd with rfl | h
    · exact Or.inl hn
    · exact Or.inr (weightsAll_mem h n hn)

theorem sized_inner {ts : List TypeId} {ds : List (DataW H)} (h : (DataW.weightsEach P ts ds).all (· ≤ reachBytes) = true) {j : Nat} {t e q : TypeId} {elems spare e' sp' : List (DataW H)}
    (ht : ts[j]? = some t) (hd : ds[j]? = some (.slice elems spare)) (hu : P.underlying t = some (.slice e)) (hu2 : P.underlying e = some (.slice q)) (hx : DataW.slice e' sp' ∈ elems) : (e'.length + sp'.length) * P.bytesOf q ≤ reachBytes := by
  refine of_decide_eq_true (List.all_eq_true.1 h _ (DataW.weights_mem_each ht hd _ ?_))
  simp only [DataW.weights, hu, List.mem_cons, List.mem_append]
  exact Or.inr (Or.inl (weightsAll_mem hx _ (by simp [DataW.weights, hu2])))
end

theorem cellsU8 : Tryz.prog.cellsOf 5 = 1 := by kernel_rfl
theorem cellsBs : Tryz.prog.cellsOf 49 = 1 := by kernel_rfl
theorem bytesU8 : Tryz.prog.bytesOf 5 = 1 := by kernel_rfl
theorem bytesBs : Tryz.prog.bytesOf 49 = 24 := by kernel_rfl

theorem getD_wf {zs : List Int} (h : ∀ n ∈ zs, (Lit.int .u8 n).wf = true) (i : Nat) : ((b8 (zs.getD i 0)).toNat : Int) = zs.getD i 0 := by
  have key : (Lit.int .u8 (zs.getD i 0)).wf = true := by
    rw [List.getD_eq_getElem?_getD]
    cases e : zs[i]? with
    | none => decide
    | some z => exact h z (List.mem_of_getElem? e)
  obtain ⟨x, hx⟩ := byte_of_wf key
  rw [hx, b8_nat]

section
variable {H : Type} {enc : TypeId × Value → H}

/-- A list of rows of bytes, as an argument. -/
theorem open_rws {W : World} {ts : List TypeId} {ds : List (DataW H)} (hsz : (DataW.weightsEach Tryz.prog ts ds).all (· ≤ reachBytes) = true) {j : Nat} {d : DataW H} {ps : List MemPlace} {v : Value} (ht : ts[j]? = some 74) (hd : ds[j]? = some d)
    (hok : ∃ a n c, v = .slice a n c) (h : DataW.Trod enc Tryz.prog W 0 (fun _ => true) true 74 v d ps) : ∃ a b o n c S, v = .slice a n c ∧ Rws W a b o n c S := by
  obtain ⟨a0, n0, c0, rfl⟩ := hok
  obtain ⟨fuel, hf⟩ := h
  rcases open_int_rows Tryz.underlying74 Tryz.underlying49 Tryz.underlying5 cellsBs cellsU8 hf with ⟨hcs, hx⟩ | ⟨a, len, cap, A, L, C, Z, hcs, _, hl, hm, hx, hrows⟩
  · simp [Value.cells] at hcs
    obtain ⟨rfl, rfl, rfl⟩ := hcs
    exact ⟨none, 0, 0, 0, 0, fun _ => ⟨none, 0, 0, 0, 0, fun _ => 0⟩, rfl, fun h => absurd h (by omega), Rd.empty _ _ _ _, fun i hi => absurd hi (by omega), Nat.le_refl _, by omega⟩
  · simp [Value.cells] at hcs
    obtain ⟨rfl, rfl, rfl⟩ := hcs
    simp only [Prod.mk.injEq] at hx
    obtain ⟨rfl, rfl⟩ := hx
    have hout := sized_slice hsz ht hd Tryz.underlying74
    simp only [List.length_map, List.length_range, bytesBs, reach_eq] at hout
    obtain ⟨gb, go, gs⟩ := a
    have hgs : 0 < n0 → gs = none := fun h => by simpa [Addr.add] using World.cell?_spot (hrows 0 (by omega)).1
    have hcap : ∀ r, r < n0 → C r ≤ 140737488351232 := fun r hr => by
      obtain ⟨_, h1, _, h2, _, h3, _⟩ := hrows r (by omega)
      cases hA : A r with
      | none => have := h3 hA; omega
      | some a' =>
        have hin := sized_inner hsz ht hd Tryz.underlying74 Tryz.underlying49 (e' := lits .u8 ((Z r).take (L r))) (sp' := lits .u8 ((Z r).drop (L r)))
          (List.mem_map.2 ⟨r, List.mem_range.2 hr, by simp [intRow, hA]⟩)
        simp only [lits, List.length_map, List.length_take, List.length_drop, bytesU8, reach_eq] at hin
        omega
    refine ⟨some ⟨gb, go, gs⟩, gb, go, n0, c0, fun r => ⟨A r, ((A r).getD default).block, ((A r).getD default).off, L r, C r, fun i => b8 ((Z r).getD i 0)⟩, rfl, fun h => by rw [hgs h], fun r hr => ?_, fun r hr => ?_, hl, by omega⟩
    · have := (hrows r (by omega)).1
      have hg := hgs (by omega)
      subst hg
      rwa [add_plain] at this
    · obtain ⟨_, h1, _, h2, hw, h3, h4⟩ := hrows r (by omega)
      have key : ∀ i, i < L r → A r = some ⟨((A r).getD default).block, ((A r).getD default).off, none⟩ ∧ W.cell? ⟨((A r).getD default).block, ((A r).getD default).off + i, none⟩ = some (.int .u8 ((Z r).getD i 0)) := fun i hi => by
        cases hA : A r with
        | none => have := h3 hA; omega
        | some a' =>
          obtain ⟨ab, ao, asp⟩ := a'
          obtain ⟨_, hcell⟩ := h4 _ hA
          have has : asp = none := by simpa [Addr.add] using World.cell?_spot (hcell 0 (by omega))
          subst has
          exact ⟨rfl, by have := hcell i (by omega); rwa [add_plain] at this⟩
      refine ⟨fun h => (key 0 h).1, fun i hi => ?_, h1, by have := hcap r hr; show C r ≤ _; omega⟩
      rw [(key i hi).2]
      show _ = some (Value.int .u8 ((b8 ((Z r).getD i 0)).toNat : Int))
      rw [getD_wf hw]
end
end Go.Proofs.YtgelingkifafeaaGreatDoor
