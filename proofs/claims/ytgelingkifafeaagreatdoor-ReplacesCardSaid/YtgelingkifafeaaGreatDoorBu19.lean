import Derived.Test.YtgelingkifafeaaGreatDoorBu18
import Derived.Test.YtgelingkifafeaaGreatDoorBu14
import Derived.Test.YtgelingkifafeaaGreatDoorBu15
import Derived.ChangeKeysEq
import Derived.Laws.StructEq
/- Whole arrays, by value: the equality of two; a load in the quiet walk. -/
namespace Go.Proofs.YtgelingkifafeaaGreatDoor
open Go Go.RowKit Go.Proofs
set_option maxRecDepth 100000
set_option linter.unusedVariables false

theorem mixed0 : Tryz.prog.follows .mixedOrders = true := by kernel_rfl
theorem below_drew' (w : World) : Below w.heap.size w w.drew := ⟨rfl, rfl, rfl, Nat.le_refl _, fun _ _ => rfl⟩
theorem Upd.at1 {w w' : World} {b : Nat} (h : Upd (· = b) w w') (k : Nat) (v : Value) : Upd (· = b) w (w'.setCell ⟨b, k, none⟩ v) := h.setCell (fun _ => rfl) v
section
variable {P : Program}
theorem run_part_bc {w : World} {e : TypeId} {n : Nat} (f : Nat → Value) (k : Nat) (he : ∀ w, (isAgg e).run P w = .ok false w) (hk : k < n) : (part e (bc n f) k).run P w = .ok (f k) w := by
  have hb : (bc n f)[k]? = some (f k) := bc_at f hk
  simp [part, Sem.run_bind, he, hb]

theorem run_eqItems_bytes (d : Nat) {e : TypeId} (he : ∀ w, (isAgg e).run P w = .ok false w) (hu : P.underlying e = some (.int .u8)) {n : Nat} (x y : Nat → UInt8) : ∀ (is : List Nat) (w : World), (∀ j ∈ is, j < n) →
    (Op.eqItems (d + 1) e 1 (bc n (rb x)) (bc n (rb y)) is).run P w = .ok (is.all fun j => x j == y j) w
  | [], w, _ => by simp [Op.eqItems]
  | j :: is, w, h => by
    have hj := h j (by simp)
    have ih := run_eqItems_bytes d he hu x y is w fun k hk => h k (by simp [hk])
    have h1 : (part e (bc n (rb x)) j).run P w = .ok (B (x j)) w := run_part_bc (rb x) j he hj
    have h2 : (part e (bc n (rb y)) j).run P w = .ok (B (y j)) w := run_part_bc (rb y) j he hj
    simp only [Op.eqItems, Sem.run_bind, Nat.mul_one, h1, h2, Result.andThen_ok, run_equalIn_int w d e .u8 .u8 _ _ hu]
    by_cases hxy : x j = y j
    · have e : (x j == y j) = true := by simp [hxy]
      simp [ih, hxy, e]
    · have hne : ((x j).toNat : Int) ≠ ((y j).toNat : Int) := fun h => hxy (UInt8.toNat.inj (by omega))
      simp [hxy, hne]

theorem run_eq_bytes {t e : TypeId} {n : Nat} {i : TypeInfo} (x y : Nat → UInt8) (hu : P.underlying t = some (.array n e)) (hi : P.info? e = some i) (hc : P.cellsOf e = 1) (he : ∀ w, (isAgg e).run P w = .ok false w) (hu8 : P.underlying e = some (.int .u8)) (w : World) :
    (binOp .eql t (av n (rb x)) (av n (rb y))).run P w = .ok (.bool ((List.range n).all fun j => x j == y j)) w := by
  rw [run_eql_struct, show (10000 : Nat) = 9998 + 1 + 1 from rfl, run_equalIn_array w (9998 + 1) _ _ hu hi, hc, run_eqItems_bytes 9998 he hu8 x y (List.range n) w (fun j hj => by simpa using hj)]
  rfl

/-- One operation of the quiet walk, by hand. -/
theorem wpQuiet_val {ops : Array Oper} {C : World → Prop} {Q : Act → Prop} {o : Oper} {rest : List Oper} {a : Act} (hg : o.guard = none) (v : Value) (h : ∀ w, C w → (execOp a.eval o).run P w = .ok (.value v) w) (hk : wpQuiet P ops C Q rest (a.put o.dst v)) : wpQuiet P ops C Q (o :: rest) a := by
  unfold wpQuiet
  have hw : Region.wanted o (yielded ops a.tmps) = true := by simp [Region.wanted, hg]
  rw [if_pos hw]
  exact ⟨v, fun w hw => by unfold Oper.quietAt; rw [h w hw]; exact ⟨rfl, rfl⟩, hk⟩
theorem wpQuiet_load_rd {ops : Array Oper} {C : World → Prop} {Q : Act → Prop} {o : Oper} {rest : List Oper} {a : Act} (hg : o.guard = none) (ty : TypeId) (x : Operand) (ho : o.op = .load ty x)
    {b off n : Nat} {f : Nat → Value} {d : TypeDesc} (hx : a.eval x = .pointer (some ⟨b, off, none⟩)) (h : ∀ w, C w → Rd w b off n f) (hu : P.underlying ty = some d) (hd : (match d with | .struct _ | .array _ _ => true | _ => false) = true) (hi : (P.info? ty).map (·.size) = some n)
    (hk : wpQuiet P ops C Q rest (a.put o.dst (av n f))) : wpQuiet P ops C Q (o :: rest) a := by
  refine wpQuiet_val hg _ (fun w hw => ?_) hk
  unfold execOp
  simp only [ho, hx, Instr.loadAt, Instr.sureAddr, Sem.run_bind, Sem.run_pure, Result.andThen_ok, run_load_rd (h w hw) hu hd hi]
theorem wpQuiet_build {ops : Array Oper} {C : World → Prop} {Q : Act → Prop} {o : Oper} {rest : List Oper} {a : Act} (hg : o.guard = none) (t : TypeId) (parts : List (Nat × Operand)) (ho : o.op = .build t parts.toArray) (vs : List (Nat × Value)) (hv : (parts.map fun (i, x) => (i, a.eval x)) = vs)
    (v : Value) (h : ∀ w, (Instr.build t vs.toArray).run P w = .ok v w) (hk : wpQuiet P ops C Q rest (a.put o.dst v)) : wpQuiet P ops C Q (o :: rest) a := by
  refine wpQuiet_val hg _ (fun w hw => ?_) hk
  unfold execOp
  simp only [ho, Sem.run_bind, Sem.run_pure, Result.andThen_ok, List.map_toArray, hv, h w]
theorem wpList_build {ops : Array Oper} {rest : List Oper} {o : Oper} {a : Act} {w : World} {Q : Exit → Act → World → Prop} (hg : o.guard = none) (t : TypeId) (parts : List (Nat × Operand)) (ho : o.op = .build t parts.toArray) (vs : List (Nat × Value)) (hv : (parts.map fun (i, x) => (i, a.eval x)) = vs)
    (v : Value) (h : ∀ w, (Instr.build t vs.toArray).run P w = .ok v w) (hk : wpList P ops Q rest (a.put o.dst v) w) : wpList P ops Q (o :: rest) a w := by
  refine wpList_plain hg fun K hK => ?_
  unfold Oper.wp execOp
  simp only [ho, Sem.run_bind, Sem.run_pure, Result.andThen_ok, List.map_toArray, hv, h w]
  exact hK _ _ hk
theorem wpQuiet_eq_bytes {ops : Array Oper} {C : World → Prop} {Q : Act → Prop} {o : Oper} {rest : List Oper} {a : Act} (hg : o.guard = none) (t t2 : TypeId) (p q : Operand) (ho : o.op = .binOp .eql t p q t2)
    {e : TypeId} {n : Nat} {i : TypeInfo} (x y : Nat → UInt8) (hp : a.eval p = av n (rb x)) (hq : a.eval q = av n (rb y)) (hu : P.underlying t = some (.array n e)) (hi : P.info? e = some i) (hc : P.cellsOf e = 1) (he : ∀ w, (isAgg e).run P w = .ok false w) (hu8 : P.underlying e = some (.int .u8)) (hm : P.eqGuardType P.depth t = false)
    (hk : wpQuiet P ops C Q rest (a.put o.dst (.bool ((List.range n).all fun j => x j == y j)))) : wpQuiet P ops C Q (o :: rest) a := by
  refine wpQuiet_val hg _ (fun w hw => ?_) hk
  unfold execOp
  simp only [ho, hp, hq, Sem.run_bind, Sem.run_pure, run_eqGuard_agg w .eql t p q _ _ hm, Result.andThen_ok, run_eq_bytes x y hu hi hc he hu8 w]
/-- What several stores leave of a row. -/
theorem Row.setCells_in {w : World} {b N : Nat} {f : Nat → Value} (h : Row w b 0 N f) (k n : Nat) (g : Nat → Value) (hn : k + n ≤ N) :
    Row (w.setCells b k ((List.range n).map g)) b 0 N (fun i => if k ≤ i ∧ i < k + n then g (i - k) else f i) := by
  refine ⟨fun i hi => ?_, fun i hi => by rw [World.frozen?_setCells]; exact h.free i hi⟩
  rw [Nat.zero_add]
  have hc := h.cell i hi
  rw [Nat.zero_add] at hc
  by_cases hin : k ≤ i ∧ i < k + n
  · rw [if_pos hin]
    obtain ⟨j, rfl⟩ : ∃ j, i = k + j := ⟨i - k, by omega⟩
    have hj : j < ((List.range n).map g).length := by simp; omega
    rw [World.cell?_setCells_in b _ k w (fun j hj => by have h := h.cell (k + j) (by simp at hj; omega); rw [Nat.zero_add] at h; rw [h]; rfl) j hj, Nat.add_sub_cancel_left]
    simp
  · rw [if_neg hin, World.cell?_setCells_out b _ k w _ (fun _ _ => by simp; omega)]; exact hc
/-- A whole store into a part of a row. -/
theorem wpList_store_in {ops : Array Oper} {rest : List Oper} {o : Oper} {a : Act} {w : World} {Q : Exit → Act → World → Prop} (hgd : o.guard = none) (ty : TypeId) (x y : Operand) (ho : o.op = .store ty x y)
    {b k n N : Nat} {f g : Nat → Value} (hx : a.eval x = .pointer (some ⟨b, k, none⟩)) (hy : a.eval y = av n g) (h : Row w b 0 N f) (hN : k + n ≤ N) (hi : (P.info? ty).map (·.size) = some n) (h1 : ∀ i, i < n → (g i).oneCell' = true)
    (hk : ∀ w', Upd (· = b) w w' → w'.heap.size = w.heap.size → KdKept w w' → Row w' b 0 N (fun i => if k ≤ i ∧ i < k + n then g (i - k) else f i) → wpList P ops Q rest (a.put o.dst undef) w') : wpList P ops Q (o :: rest) a w := by
  have hs : Row w b k n (fun i => f (k + i)) := by have h := h.sub hN; rwa [Nat.zero_add] at h
  have hh := setCells_heap (b := b) ((List.range n).map g) k w
  exact wpList_store_row' hgd ty x y ho hx hy hs hi h1 (hk _ hh.1 hh.2 (fun _ _ hk => hk.setCells _ _) (h.setCells_in k n g hN))
/-- A whole store. -/
theorem wpList_store_all {ops : Array Oper} {rest : List Oper} {o : Oper} {a : Act} {w : World} {Q : Exit → Act → World → Prop} (hgd : o.guard = none) (ty : TypeId) (x y : Operand) (ho : o.op = .store ty x y)
    {b n : Nat} {f g : Nat → Value} (hx : a.eval x = .pointer (some ⟨b, 0, none⟩)) (hy : a.eval y = av n g) (h : Row w b 0 n f) (hi : (P.info? ty).map (·.size) = some n) (h1 : ∀ i, i < n → (g i).oneCell' = true)
    (hk : ∀ w', Upd (· = b) w w' → w'.heap.size = w.heap.size → KdKept w w' → Row w' b 0 n g → wpList P ops Q rest (a.put o.dst undef) w') : wpList P ops Q (o :: rest) a w :=
  wpList_store_in hgd ty x y ho hx hy h (by omega) hi h1 fun w' hu hs hk' hr => hk w' hu hs hk' (hr.congr fun i hi => by rw [if_pos (by omega)]; rfl)
/-- 'copy(dst, src)' into a part of a row. -/
theorem wpList_copy_in {w : World} {ops : Array Oper} {rest : List Oper} {o : Oper} {a : Act} {Q : Exit → Act → World → Prop} (hgd : o.guard = none) (d s : Operand) (dT sT : TypeId)
    (ho : o.op = .call { callee := .builtin .copy, args := #[d, s], argTypes := #[dT, sT] }) (elem : TypeId) (hu : P.underlying dT = some (.slice elem)) (hsz : (P.info? elem).map (·.size) = some 1)
    (sp : Option Addr) (dLen dCap sLen sCap db k : Nat) (hd : a.eval d = .slice (some ⟨db, k, none⟩) dLen dCap) (hs : a.eval s = .slice sp sLen sCap)
    (m N sb so : Nat) (f g : Nat → Value) (hm : m = Nat.min sLen dLen) (hN : k + m ≤ N) (hdst : Row w db 0 N f) (hsrc : Rd w sb so m g)
    (hsp : 0 < m → sp = some ⟨sb, so, none⟩) (h1 : ∀ i, i < m → (g i).oneCell' = true)
    (h : ∀ w', Upd (· = db) w w' → w'.heap.size = w.heap.size → KdKept w w' → Row w' db 0 N (fun i => if k ≤ i ∧ i < k + m then g (i - k) else f i) → wpList P ops Q rest (a.put o.dst (goInt m)) w') :
    wpList P ops Q (o :: rest) a w := by
  by_cases h0 : m = 0
  · refine wpList_copy_nothing hgd d s dT sT ho elem hu hsz _ sp dLen dCap sLen sCap hd hs (by omega) ?_
    have := h w (Upd.refl _ _) rfl (fun _ _ h => h) (hdst.congr fun i _ => by simp [h0]; omega)
    rwa [h0] at this
  · have es := hsp (by omega)
    subst es
    refine wpList_plain hgd fun K hK => ?_
    generalize hcs : (List.range m).map g = cs
    have hlen : cs.length = m := by simp [← hcs]
    have hget : ∀ j (hj : j < cs.length), cs[j] = g j := by intro j hj; simp [← hcs]
    have hadd : ∀ (b o j : Nat), (⟨b, o, none⟩ : Addr).add j = ⟨b, o + j, none⟩ := by intro b o j; unfold Addr.add; split <;> simp_all
    have hc0 : ∀ j, j < m → (w.cell? ⟨db, k + j, none⟩).isSome = true := fun j hj => by have h := hdst.cell (k + j) (by omega); rw [Nat.zero_add] at h; rw [h]; rfl
    have hrun := run_copy_cells (P := P) w dT sT o.type elem db k dLen dCap ⟨sb, so, none⟩ sLen sCap cs hu hsz (by rw [hlen, hm])
      (fun j v hj => by
        obtain ⟨hl, e⟩ := List.getElem?_eq_some_iff.1 hj
        rw [hadd, ← e, hget]; exact hsrc j (by omega))
      (fun j hj => hc0 j (by omega)) (fun j hj => by have h := hdst.free (k + j) (by omega); rwa [Nat.zero_add] at h)
      (fun v hv => by
        obtain ⟨j, hj, rfl⟩ := List.getElem_of_mem hv
        rw [hget]; exact h1 j (by omega))
    unfold Oper.wp
    simp [execOp, ho, resolve, invoke, builtin, hd, hs, hrun, Result.andThen]
    rw [hlen]
    have hh := setCells_heap (b := db) cs k w
    refine hK _ _ (h _ hh.1 hh.2 (fun _ _ hk => hk.setCells cs k) ⟨fun i hi => ?_, fun i hi => by rw [World.frozen?_setCells]; exact hdst.free i hi⟩)
    rw [Nat.zero_add]
    have hc := hdst.cell i hi
    rw [Nat.zero_add] at hc
    by_cases hin : k ≤ i ∧ i < k + m
    · rw [if_pos hin]
      obtain ⟨j, rfl⟩ : ∃ j, i = k + j := ⟨i - k, by omega⟩
      have hj : j < cs.length := by omega
      rw [World.cell?_setCells_in db cs k w (fun j hj => hc0 j (by omega)) j hj, hget, Nat.add_sub_cancel_left]
    · rw [if_neg hin, World.cell?_setCells_out db cs k w _ (fun _ _ => by simp; omega)]; exact hc
theorem wpList_eq_bytes {w : World} {ops : Array Oper} {rest : List Oper} {o : Oper} {a : Act} {Q : Exit → Act → World → Prop} (hg : o.guard = none) (t t2 : TypeId) (p q : Operand) (ho : o.op = .binOp .eql t p q t2)
    {e : TypeId} {n : Nat} {i : TypeInfo} (x y : Nat → UInt8) (hp : a.eval p = av n (rb x)) (hq : a.eval q = av n (rb y)) (hu : P.underlying t = some (.array n e)) (hi : P.info? e = some i) (hc : P.cellsOf e = 1) (he : ∀ w, (isAgg e).run P w = .ok false w) (hu8 : P.underlying e = some (.int .u8)) (hm : P.eqGuardType P.depth t = false)
    (hk : wpList P ops Q rest (a.put o.dst (.bool ((List.range n).all fun j => x j == y j))) w) : wpList P ops Q (o :: rest) a w := by
  refine wpList_plain hg fun K hK => ?_
  unfold Oper.wp execOp
  simp only [ho, hp, hq, Sem.run_bind, Sem.run_pure, run_eqGuard_agg w .eql t p q _ _ hm, Result.andThen_ok, run_eq_bytes x y hu hi hc he hu8 w]
  exact hK _ _ hk
end
end Go.Proofs.YtgelingkifafeaaGreatDoor
