import Derived.Test.YthaamnjpjkkolabDoorGlue
import Derived.StillTailTactics
import Derived.Deep.RegionHeld3
import Derived.Deep.RegionLaw
import Derived.Deep.RegionWith
import Derived.Deep.CutRange
import Derived.Deep.DeepCutAuto
import Derived.Deep.Light
import Derived.Deep.DeepFit
import Derived.Laws.CopyOwn
import Derived.Laws.AppendOwn
import Derived.Laws.AppendOwnNone
/- Rows of cells, told by their index: what a store, a new block, a draw make of them. -/
namespace Go.Proofs.YthaamnjpjkkolabDoor
open Go.RowKit Go.Proofs

/-- From place o of block b on lie n cells, none frozen, cell i holding f i. -/
structure Row (w : World) (b o n : Nat) (f : Nat → Value) : Prop where
  cell : ∀ i, i < n → w.cell? ⟨b, o + i, none⟩ = some (f i)
  free : ∀ i, i < n → w.frozen? ⟨b, o + i, none⟩ = false

/-- From place o of block b on lie n cells, cell i holding f i. -/
def Rd (w : World) (b o n : Nat) (f : Nat → Value) : Prop := ∀ i, i < n → w.cell? ⟨b, o + i, none⟩ = some (f i)

section
variable {w w' : World} {b o n : Nat} {f g : Nat → Value}

theorem Row.rd (h : Row w b o n f) : Rd w b o n f := h.cell
theorem Rd.lt (h : Rd w b o n f) (hn : 0 < n) : b < w.heap.size := World.block_lt_of_cell? _ _ (h 0 hn)
theorem Row.lt (h : Row w b o n f) (hn : 0 < n) : b < w.heap.size := h.rd.lt hn

theorem Row.congr (h : Row w b o n f) (e : ∀ i, i < n → f i = g i) : Row w b o n g :=
  ⟨fun i hi => by rw [h.cell i hi, e i hi], h.free⟩
theorem Rd.congr (h : Rd w b o n f) (e : ∀ i, i < n → f i = g i) : Rd w b o n g := fun i hi => by rw [h i hi, e i hi]

theorem Rd.of_block (h : Rd w b o n f) (e : 0 < n → w'.heap[b]? = w.heap[b]?) : Rd w' b o n f := fun i hi => by
  rw [← h i hi]; exact World.cell?_of_block (w := w) (a := ⟨b, o + i, none⟩) (e (by omega))
theorem Row.of_block (h : Row w b o n f) (e : 0 < n → w'.heap[b]? = w.heap[b]?) : Row w' b o n f :=
  ⟨h.rd.of_block e, fun i hi => by rw [← h.free i hi]; exact World.frozen?_of_block (w := w) (a := ⟨b, o + i, none⟩) (e (by omega))⟩

theorem Rd.below {B : Nat} (h : Rd w b o n f) (hb : Below B w w') (hB : 0 < n → b < B) : Rd w' b o n f := h.of_block fun hn => hb.block b (hB hn)
theorem Row.below {B : Nat} (h : Row w b o n f) (hb : Below B w w') (hB : 0 < n → b < B) : Row w' b o n f := h.of_block fun hn => hb.block b (hB hn)
/-- Behind a call that makes memory alone. -/
theorem Rd.later (h : Rd w b o n f) (hb : Below w.heap.size w w') : Rd w' b o n f := h.below hb h.lt
theorem Row.later (h : Row w b o n f) (hb : Below w.heap.size w w') : Row w' b o n f := h.below hb h.lt

theorem Rd.alloc (h : Rd w b o n f) (x : Obj) : Rd (w.alloc x) b o n f := h.of_block fun hn => Deep.blk_alloc_lt _ _ _ (h.lt hn)
theorem Row.alloc (h : Row w b o n f) (x : Obj) : Row (w.alloc x) b o n f := h.of_block fun hn => Deep.blk_alloc_lt _ _ _ (h.lt hn)
theorem Rd.drewN (h : Rd w b o n f) (k : Nat) : Rd (w.drewN k) b o n f := fun i hi => h i hi
theorem Row.drew (h : Row w b o n f) : Row w.drew b o n f := ⟨h.cell, h.free⟩
theorem Row.drewN (h : Row w b o n f) (k : Nat) : Row (w.drewN k) b o n f := ⟨h.cell, h.free⟩
theorem Row.grown {row : Option Nat} (h : Row w b o n f) (hg : w.grownBy w' row) (hr : 0 < n → some b ≠ row) : Row w' b o n f :=
  h.of_block fun hn => hg.block b (h.lt hn) (hr hn)

theorem Rd.other (h : Rd w b o n f) {a : Addr} (ha : 0 < n → a.block ≠ b) (v : Value) : Rd (w.setCell a v) b o n f :=
  h.of_block fun hn => Deep.blk_setCell_other _ _ _ _ (Ne.symm (ha hn))
theorem Row.other (h : Row w b o n f) {a : Addr} (ha : a.block ≠ b) (v : Value) : Row (w.setCell a v) b o n f :=
  h.of_block fun _ => Deep.blk_setCell_other _ _ _ _ (Ne.symm ha)

theorem cell_set_same {w : World} {b k : Nat} {u : Value} (h : w.cell? ⟨b, k, none⟩ = some u) (v : Value) : (w.setCell ⟨b, k, none⟩ v).cell? ⟨b, k, none⟩ = some v := by
  unfold World.cell? at h ⊢
  unfold World.setCell
  simp only [Array.getElem?_modify, if_true]
  cases hb : w.heap[b]? with
  | none => simp [hb] at h
  | some ob =>
    cases ob <;> simp_all
    obtain ⟨hlt, _⟩ := Array.getElem?_eq_some_iff.1 h
    rw [Array.getElem?_setIfInBounds]
    simp [hlt]

theorem cell_set_off {w : World} {b k j : Nat} (h : j ≠ k) (v : Value) : (w.setCell ⟨b, k, none⟩ v).cell? ⟨b, j, none⟩ = w.cell? ⟨b, j, none⟩ := by
  unfold World.cell? World.setCell
  simp only [Array.getElem?_modify, if_true]
  cases hb : w.heap[b]? with
  | none => simp
  | some ob =>
    cases ob <;> simp
    rw [Array.getElem?_setIfInBounds]
    simp [Ne.symm h]

theorem frozen_set {w : World} {a p : Addr} (v : Value) : (w.setCell a v).frozen? p = w.frozen? p := by
  unfold World.frozen? World.setCell
  simp only [Array.getElem?_modify]
  by_cases e : a.block = p.block
  · rw [if_pos e]
    cases hb : w.heap[p.block]? with
    | none => simp
    | some ob => cases ob <;> simp
  · rw [if_neg e]

/-- A store into the row. -/
theorem Row.set (h : Row w b o n f) {i : Nat} (_hi : i < n) (v : Value) : Row (w.setCell ⟨b, o + i, none⟩ v) b o n (fun j => if j = i then v else f j) := by
  refine ⟨fun j hj => ?_, fun j hj => by rw [frozen_set]; exact h.free j hj⟩
  by_cases e : j = i
  · subst e; simp only [if_true]; exact cell_set_same (h.cell j hj) v
  · simp only [if_neg e]
    rw [cell_set_off (by omega)]; exact h.cell j hj

/-- A store into another place of the same block. -/
theorem Row.aside (h : Row w b o n f) {k : Nat} (hk : k < o ∨ o + n ≤ k) (v : Value) : Row (w.setCell ⟨b, k, none⟩ v) b o n f :=
  ⟨fun j hj => by rw [cell_set_off (by omega)]; exact h.cell j hj, fun j hj => by rw [frozen_set]; exact h.free j hj⟩

/-- A part of a row. -/
theorem Row.sub (h : Row w b o n f) {k m : Nat} (hk : k + m ≤ n) : Row w b (o + k) m (fun i => f (k + i)) :=
  ⟨fun i hi => by rw [Nat.add_assoc]; exact h.cell (k + i) (by omega), fun i hi => by rw [Nat.add_assoc]; exact h.free (k + i) (by omega)⟩
theorem Row.take (h : Row w b o n f) {m : Nat} (hm : m ≤ n) : Row w b o m f := ⟨fun i hi => h.cell i (by omega), fun i hi => h.free i (by omega)⟩
theorem Rd.take (h : Rd w b o n f) {m : Nat} (hm : m ≤ n) : Rd w b o m f := fun i hi => h i (by omega)

theorem Row.made {t : TypeId} (h : w.rowIs b t n f) : Row w b 0 n f := ⟨fun i hi => by rw [Nat.zero_add]; exact h.cell hi, fun i _ => h.frozen _⟩
theorem Row.empty (w : World) (b o : Nat) (f : Nat → Value) : Row w b o 0 f := ⟨fun i hi => absurd hi (by omega), fun i hi => absurd hi (by omega)⟩
theorem Rd.empty (w : World) (b o : Nat) (f : Nat → Value) : Rd w b o 0 f := fun i hi => absurd hi (by omega)
end

/-- A row of a new block, by make: n times z. -/
theorem Row.new (w : World) (z : Value) (n : Nat) (t : TypeId) : Row (w.alloc (.cells (madeCells #[z] n) t)) w.heap.size 0 n (fun _ => z) :=
  Row.made (World.rowIs_made w z n t)


/-! ### What may have turned -/

/-- Of the blocks that there were, those of G alone may have turned. -/
structure Upd (G : Nat → Prop) (w w' : World) : Prop where
  os : w'.os = w.os
  tape : w'.tape = w.tape
  output : w'.output = w.output
  size : w.heap.size ≤ w'.heap.size
  block : ∀ k, k < w.heap.size → ¬ G k → w'.heap[k]? = w.heap[k]?

namespace Upd
variable {G H : Nat → Prop} {w w' w'' : World}
theorem refl (G : Nat → Prop) (w : World) : Upd G w w := ⟨rfl, rfl, rfl, Nat.le_refl _, fun _ _ _ => rfl⟩
theorem trans (h : Upd G w w') (k : Upd H w' w'') (hH : ∀ b, H b → b < w.heap.size → G b) : Upd G w w'' :=
  ⟨k.os.trans h.os, k.tape.trans h.tape, k.output.trans h.output, Nat.le_trans h.size k.size, fun b hb hg =>
    (k.block b (Nat.lt_of_lt_of_le hb h.size) fun hh => hg (hH b hh hb)).trans (h.block b hb hg)⟩
theorem mono (h : Upd G w w') (hG : ∀ b, b < w.heap.size → G b → H b) : Upd H w w' :=
  ⟨h.os, h.tape, h.output, h.size, fun b hb hg => h.block b hb fun hh => hg (hG b hb hh)⟩
theorem drew (h : Upd G w w') : Upd G w w'.drew := ⟨h.os, h.tape, h.output, h.size, h.block⟩
theorem drewN (h : Upd G w w') (n : Nat) : Upd G w (w'.drewN n) := ⟨h.os, h.tape, h.output, h.size, h.block⟩
theorem alloc (h : Upd G w w') (o : Obj) : Upd G w (w'.alloc o) :=
  ⟨h.os, h.tape, h.output, Nat.le_trans h.size (by rw [Deep.nblk_alloc]; omega), fun b hb hg => by
    rw [Deep.blk_alloc_lt _ _ _ (Nat.lt_of_lt_of_le hb h.size)]; exact h.block b hb hg⟩
theorem setCell (h : Upd G w w') {a : Addr} (ha : a.block < w.heap.size → G a.block) (v : Value) : Upd G w (w'.setCell a v) :=
  ⟨h.os, h.tape, h.output, Nat.le_trans h.size (by rw [Deep.nblk_setCell]; exact Nat.le_refl _), fun b hb hg => by
    have hne : b ≠ a.block := fun e => hg (by subst e; exact ha hb)
    rw [Deep.blk_setCell_other _ _ _ _ hne]; exact h.block b hb hg⟩
theorem of_below (h : Below w.heap.size w w') : Upd (fun _ => False) w w' := ⟨h.os, h.tape, h.output, h.size, fun b hb _ => h.block b hb⟩
theorem below {B : Nat} (h : Upd G w w') (hG : ∀ b, G b → B ≤ b) (hB : B ≤ w.heap.size) : Below B w w' :=
  ⟨h.os, h.tape, h.output, h.size, fun b hb => h.block b (by omega) fun g => by have := hG b g; omega⟩
theorem of_grown {row : Option Nat} (h : w.grownBy w' row) : Upd (fun b => some b = row) w w' := ⟨h.os, h.tape, h.output, h.size, h.block⟩
end Upd

theorem Rd.upd {G : Nat → Prop} {w w' : World} {b o n : Nat} {f : Nat → Value} (h : Rd w b o n f) (hu : Upd G w w') (hg : 0 < n → ¬ G b) : Rd w' b o n f :=
  h.of_block fun hn => hu.block b (h.lt hn) (hg hn)
theorem Row.upd {G : Nat → Prop} {w w' : World} {b o n : Nat} {f : Nat → Value} (h : Row w b o n f) (hu : Upd G w w') (hg : 0 < n → ¬ G b) : Row w' b o n f :=
  h.of_block fun hn => hu.block b (h.lt hn) (hg hn)
theorem Below.upd {B : Nat} {G : Nat → Prop} {w0 w w' : World} (h : Below B w0 w) (hu : Upd G w w') (hG : ∀ b, G b → B ≤ b) (hB : B ≤ w.heap.size) : Below B w0 w' :=
  h.trans (hu.below hG hB)

/-- Block b is a row of cells of type t, none frozen. -/
def Kd (w : World) (b t : Nat) : Prop := ∃ c, w.heap[b]? = some (.cells c t (0, 0))

theorem Kd.lt {w : World} {b t : Nat} (h : Kd w b t) : b < w.heap.size := by
  obtain ⟨c, h⟩ := h; exact (Array.getElem?_eq_some_iff.1 h).1
theorem Kd.ne {w : World} {b b' t t' : Nat} (h : Kd w b t) (h' : Kd w b' t') (e : t ≠ t') : b ≠ b' := by
  rintro rfl
  obtain ⟨c, h⟩ := h; obtain ⟨c', h'⟩ := h'
  rw [h] at h'; simp at h'; exact e h'.2
theorem Kd.of_block {w w' : World} {b t : Nat} (h : Kd w b t) (e : w'.heap[b]? = w.heap[b]?) : Kd w' b t := by
  obtain ⟨c, h⟩ := h; exact ⟨c, e.trans h⟩
theorem Kd.upd {G : Nat → Prop} {w w' : World} {b t : Nat} (h : Kd w b t) (hu : Upd G w w') (hg : ¬ G b) : Kd w' b t := h.of_block (hu.block b h.lt hg)
theorem Kd.later {w w' : World} {b t : Nat} (h : Kd w b t) (hb : Below w.heap.size w w') : Kd w' b t := h.of_block (hb.block b h.lt)
theorem Kd.alloc {w : World} {b t : Nat} (h : Kd w b t) (o : Obj) : Kd (w.alloc o) b t := h.of_block (Deep.blk_alloc_lt _ _ _ h.lt)
theorem Kd.drewN {w : World} {b t : Nat} (h : Kd w b t) (k : Nat) : Kd (w.drewN k) b t := h
theorem Kd.new (w : World) (c : Array Value) (t : Nat) : Kd (w.alloc (.cells c t)) w.heap.size t := ⟨c, Deep.blk_alloc_new _ _⟩
theorem Kd.set {w : World} {b t : Nat} (h : Kd w b t) (a : Addr) (v : Value) : Kd (w.setCell a v) b t := by
  obtain ⟨c, h⟩ := h
  by_cases e : b = a.block
  · subst e
    refine ⟨if a.spot.isSome then c else c.setIfInBounds a.off v, ?_⟩
    simp only [World.setCell, Array.getElem?_modify, if_true, h, Option.map_some]
  · exact ⟨c, by rw [Deep.blk_setCell_other _ _ _ _ e]; exact h⟩
theorem Kd.setCells {b t g : Nat} : ∀ (vs : List Value) (o : Nat) {w : World}, Kd w b t → Kd (w.setCells g o vs) b t
  | [], _, _, h => h
  | v :: r, o, _, h => by rw [World.setCells]; exact Kd.setCells r (o + 1) (h.set _ v)

/-- No row has changed its kind. -/
def KdKept (w w' : World) : Prop := ∀ b t, Kd w b t → Kd w' b t
theorem KdKept.refl (w : World) : KdKept w w := fun _ _ h => h
theorem KdKept.trans {w w' w'' : World} (h : KdKept w w') (k : KdKept w' w'') : KdKept w w'' := fun b t x => k b t (h b t x)
theorem KdKept.set {w w' : World} (h : KdKept w w') (a : Addr) (v : Value) : KdKept w (w'.setCell a v) := fun b t x => (h b t x).set a v
theorem KdKept.alloc {w w' : World} (h : KdKept w w') (o : Obj) : KdKept w (w'.alloc o) := fun b t x => (h b t x).alloc o
theorem KdKept.drewN {w w' : World} (h : KdKept w w') (n : Nat) : KdKept w (w'.drewN n) := h
theorem KdKept.below {w w' : World} (h : Below w.heap.size w w') : KdKept w w' := fun _ _ x => x.later h

/-! ### copy -/

theorem setCells_heap {b : Nat} : ∀ (vs : List Value) (o : Nat) (w : World), Upd (· = b) w (w.setCells b o vs) ∧ (w.setCells b o vs).heap.size = w.heap.size
  | [], _, w => ⟨Upd.refl _ _, rfl⟩
  | v :: r, o, w => by
    have ih := setCells_heap (b := b) r (o + 1) (w.setCell ⟨b, o, none⟩ v)
    rw [World.setCells]
    exact ⟨((Upd.refl (· = b) w).setCell (fun _ => rfl) v).trans ih.1 (fun _ h _ => h.symm ▸ rfl), by rw [ih.2, Deep.nblk_setCell]⟩

theorem Row.setCells {w : World} {b o n : Nat} {f : Nat → Value} (h : Row w b o n f) (vs : List Value) (hv : vs.length ≤ n) :
    Row (w.setCells b o vs) b o n (fun i => if hi : i < vs.length then vs[i] else f i) := by
  refine ⟨fun i hi => ?_, fun i hi => by rw [World.frozen?_setCells]; exact h.free i hi⟩
  by_cases hl : i < vs.length
  · rw [World.cell?_setCells_in b vs o w (fun j hj => by rw [h.cell j (by omega)]; rfl) i hl]; simp [hl]
  · rw [World.cell?_setCells_out b vs o w _ (fun _ _ => .inr (by show o + vs.length ≤ o + i; omega)), h.cell i hi]; simp [hl]

section
variable {P : Program}
/-- 'copy(dst, src)', told by the index: at most one of the two need have an address where nothing goes over. -/
theorem wpList_copy_fn {w : World} {ops : Array Oper} {rest : List Oper} {o : Oper} {a : Act} {Q : Exit → Act → World → Prop} (hgd : o.guard = none) (d s : Operand) (dT sT : TypeId)
    (ho : o.op = .call { callee := .builtin .copy, args := #[d, s], argTypes := #[dT, sT] }) (elem : TypeId) (hu : P.underlying dT = some (.slice elem)) (hsz : (P.info? elem).map (·.size) = some 1)
    (dp sp : Option Addr) (dLen dCap sLen sCap : Nat) (hd : a.eval d = .slice dp dLen dCap) (hs : a.eval s = .slice sp sLen sCap)
    (m db dof n sb so : Nat) (f g : Nat → Value) (hm : m = Nat.min sLen dLen) (hn : m ≤ n) (hdst : Row w db dof n f) (hsrc : Rd w sb so m g)
    (hdp : 0 < m → dp = some ⟨db, dof, none⟩) (hsp : 0 < m → sp = some ⟨sb, so, none⟩) (h1 : ∀ i, i < m → (g i).oneCell' = true)
    (h : ∀ w', Upd (· = db) w w' → w'.heap.size = w.heap.size → KdKept w w' → Row w' db dof n (fun i => if i < m then g i else f i) → wpList P ops Q rest (a.put o.dst (goInt m)) w') :
    wpList P ops Q (o :: rest) a w := by
  by_cases h0 : m = 0
  · refine wpList_copy_nothing hgd d s dT sT ho elem hu hsz dp sp dLen dCap sLen sCap hd hs (by omega) ?_
    have := h w (Upd.refl _ _) rfl (fun _ _ h => h) (hdst.congr fun i _ => by simp [h0])
    rwa [h0] at this
  · have ep := hdp (by omega)
    have es := hsp (by omega)
    subst ep; subst es
    refine wpList_plain hgd fun K hK => ?_
    generalize hcs : (List.range m).map g = cs
    have hlen : cs.length = m := by simp [← hcs]
    have hget : ∀ j (hj : j < cs.length), cs[j] = g j := by intro j hj; simp [← hcs]
    have hadd : ∀ (b o j : Nat), (⟨b, o, none⟩ : Addr).add j = ⟨b, o + j, none⟩ := by intro b o j; unfold Addr.add; split <;> simp_all
    have hrun := run_copy_cells (P := P) w dT sT o.type elem db dof dLen dCap ⟨sb, so, none⟩ sLen sCap cs hu hsz (by rw [hlen, hm])
      (fun j v hj => by
        obtain ⟨hl, e⟩ := List.getElem?_eq_some_iff.1 hj
        rw [hadd, ← e, hget]; exact hsrc j (by omega))
      (fun j hj => by rw [hdst.cell j (by omega)]; rfl) (fun j hj => hdst.free j (by omega))
      (fun v hv => by
        obtain ⟨j, hj, rfl⟩ := List.getElem_of_mem hv
        rw [hget]; exact h1 j (by omega))
    unfold Oper.wp
    simp [execOp, ho, resolve, invoke, builtin, hd, hs, hrun, Result.andThen]
    rw [hlen]
    have hh := setCells_heap (b := db) cs dof w
    refine hK _ _ (h _ hh.1 hh.2 (fun _ _ hk => hk.setCells cs dof) ((hdst.setCells cs (by omega)).congr fun i _ => ?_))
    by_cases hi : i < m
    · simp [hi, hlen, hget]
    · simp [hi, hlen]
end


/-! ### The types of bytes and rows of bytes -/

theorem infoU8 : (Tryd.prog.info? 5).map (fun i => (i.zero, i.size, i.bytes)) = some (some (.int .u8 0), 1, 1) := by kernel_rfl
theorem infoBs : (Tryd.prog.info? 28).map (fun i => (i.zero, i.size, i.bytes)) = some (some (.slice none 0 0), 1, 24) := by kernel_rfl
theorem sizeU8 : (Tryd.prog.info? 5).map (·.size) = some 1 := by kernel_rfl

/-- make([]byte, n). -/
theorem make_bytes (n : Int) (h0 : 0 ≤ n) (h1 : n ≤ 1000000) (w : World) :
    (Instr.makeSlice 28 (.int .i64 n) (.int .i64 n)).run Tryd.prog w = .ok (.slice (some ⟨w.heap.size, 0, none⟩) n.toNat n.toNat) (w.alloc (.cells (madeCells #[.int .u8 0] n.toNat) 5)) := by
  have := run_make_row' (P := Tryd.prog) 28 5 (.int .u8 0) 1 Tryd.underlying28 infoU8 rfl .i64 .i64 n.toNat (by omega) (by omega) w
  rwa [Int.toNat_of_nonneg h0] at this

end Go.Proofs.YthaamnjpjkkolabDoor

/- The law's small helpers: same, roomy, still. -/
namespace Go.Proofs.YthaamnjpjkkolabDoor
open Go.RowKit Go.Proofs
set_option maxRecDepth 100000
set_option linter.unusedVariables false

/-- The bytes of a row. -/
abbrev bs (x : Nat → UInt8) : Nat → Value := fun i => B (x i)

/-- Are they the same up to k? -/
def sameTo (x y : Nat → UInt8) (k : Nat) : Prop := ∀ i < k, x i = y i
theorem sameTo_next {x y : Nat → UInt8} {k : Nat} (h : sameTo x y k) (e : x k = y k) : sameTo x y (k + 1) := by
  intro i hi
  by_cases h' : i = k
  · subst h'; exact e
  · exact h i (by omega)

def sameB (n m : Nat) (x y : Nat → UInt8) : Bool := n == m && (List.range n).all fun i => x i == y i
theorem sameB_iff {n m : Nat} {x y : Nat → UInt8} : sameB n m x y = true ↔ n = m ∧ sameTo x y n := by simp [sameB, sameTo]
theorem sameB_len {n m : Nat} {x y : Nat → UInt8} (h : n ≠ m) : sameB n m x y = false := by
  rw [Bool.eq_false_iff]; exact fun e => h (sameB_iff.1 e).1
theorem sameB_no {n k : Nat} {x y : Nat → UInt8} (hk : k < n) (h : x k ≠ y k) : sameB n n x y = false := by
  rw [Bool.eq_false_iff]; exact fun e => h ((sameB_iff.1 e).2 k hk)
theorem sameB_yes {n : Nat} {x y : Nat → UInt8} (h : sameTo x y n) : sameB n n x y = true := sameB_iff.2 ⟨rfl, h⟩
theorem ret_bool {a b : Bool} (h : a = b) : Ending.returned (.bool a) = .returned (.bool b) := by rw [h]
theorem byte_ne {x y : UInt8} (h : (((x.toNat : Int)) != (y.toNat : Int)) = true) : x ≠ y := by
  rintro rfl; simp at h
theorem byte_eq {x y : UInt8} (h : (((x.toNat : Int)) != (y.toNat : Int)) = false) : x = y := by
  simp at h; exact UInt8.toNat.inj (by omega)

set_option maxHeartbeats 400000 in
theorem same_any (a a' : Option Addr) (b o b' o' n n' c c' : Nat) (x y : Nat → UInt8) (w : World)
    (ha : 0 < n → a = some ⟨b, o, none⟩) (ha' : 0 < n' → a' = some ⟨b', o', none⟩) (hx : Rd w b o n (bs x)) (hy : Rd w b' o' n' (bs y)) (hn : n ≤ 9223372036854775807) (hn' : n' ≤ 9223372036854775807) :
    Calls Tryd.prog 26 #[.slice a n c, .slice a' n' c'] w fun e w' => e = .returned (.bool (sameB n n' x y)) ∧ ∃ k, w' = w.drewN k := by
  have HX := Lib.hid hx
  have HY := Lib.hid hy
  clear hx hy
  by_cases hne : n = n'
  · subst hne
    go_enter Tryd.func26, Tryd.ntmps26
    go_wp2
    go_loopw [5] (fun i wr => ∃ k q : Nat, k ≤ n ∧ i = I k ∧ sameTo x y k ∧ wr = w.drewN q) (fun i _ => n - (intOf i).toNat)
    case atStart => exact ⟨0, 0, by omega, rfl, fun i hi => absurd hi (by omega), rfl⟩
    case round =>
      obtain ⟨k, q, hk, rfl, hs, rfl⟩ := hrel
      have HS := Lib.hid hs
      clear hs
      by_cases hlt : k < n
      · obtain rfl := ha (by omega)
        obtain rfl := ha' (by omega)
        have c1 := HX.out k hlt
        have c2 := HY.out k hlt
        go_wp2
        go_quiet (fail)
        go_wp2
        · go_ret
          exact ⟨ret_bool (sameB_no hlt (byte_ne ‹_›)).symm, q + nq, World.drewN_drewN _ _ _⟩
        · go_roundw
          case rel => exact ⟨k + 1, q + nq, by omega, by go_num, sameTo_next HS.out (byte_eq ‹_›), rfl⟩
          case measure => simp [intOf]; omega
      · go_wp2
        go_ret
        obtain rfl : k = n := by omega
        exact ⟨ret_bool (sameB_yes HS.out).symm, _, rfl⟩
  · go_enter Tryd.func26, Tryd.ntmps26
    go_wp2
    go_ret
    exact ⟨ret_bool (sameB_len hne).symm, 0, rfl⟩

/-- What roomy makes: the bytes, then 71 and 72. -/
def roomX (n : Nat) (x : Nat → UInt8) : Nat → UInt8 := fun i => if i < n then x i else if i = n then 71 else 72

/-- A byte turned within a row. -/
theorem Row.set8 {w : World} {g n k : Nat} {z : Nat → UInt8} (h : Row w g 0 n (bs z)) (hk : k < n) {v : Int} (u : UInt8) (hv : v = (u.toNat : Int)) :
    Row (w.setCell ⟨g, k, none⟩ (.int .u8 v)) g 0 n (bs (fun j => if j = k then u else z j)) := by
  have := h.set hk (.int .u8 v)
  rw [Nat.zero_add] at this
  refine this.congr fun j _ => ?_
  by_cases e : j = k <;> simp [e, bs, B, hv]

theorem roomy_done {w w1 : World} {n : Nat} {x : Nat → UInt8} {ob : Obj}
    (hu : Upd (· = w.heap.size) (w.alloc ob) w1) (hz : w1.heap.size = (w.alloc ob).heap.size)
    (hr : Row w1 w.heap.size 0 (n + 2) fun i => if i < n then bs x i else .int .u8 0) (hk : Kd w1 w.heap.size 5) {w2 : World}
    (e : w2 = (w1.setCell ⟨w.heap.size, n, none⟩ (.int .u8 71)).setCell ⟨w.heap.size, n + 1, none⟩ (.int .u8 72)) :
    Below w.heap.size w w2 ∧ w2.heap.size = w.heap.size + 1 ∧ Row w2 w.heap.size 0 (n + 2) (bs (roomX n x)) ∧ Kd w2 w.heap.size 5 := by
  subst e
  refine ⟨?_, ?_, ?_, (hk.set _ _).set _ _⟩
  · have h1 := ((hu.setCell (a := ⟨w.heap.size, n, none⟩) (fun _ => rfl) (.int .u8 71)).setCell (a := ⟨w.heap.size, n + 1, none⟩) (fun _ => rfl) (.int .u8 72))
    exact Below.upd ((Below.refl w.heap.size w).alloc (Nat.le_refl _) ob) h1 (fun b hb => by omega) (by rw [Deep.nblk_alloc]; omega)
  · rw [Deep.nblk_setCell, Deep.nblk_setCell, hz, Deep.nblk_alloc]
  · have h1 := hr.set (i := n) (by omega) (.int .u8 71)
    have h2 := h1.set (i := n + 1) (by omega) (.int .u8 72)
    simp only [Nat.zero_add] at h2
    refine h2.congr fun i hi => ?_
    unfold roomX bs
    by_cases e1 : i = n + 1
    · subst e1; simp [show ¬ n + 1 < n by omega]
    · by_cases e2 : i = n
      · subst e2; simp
      · simp [e1, e2, show i < n by omega]
end Go.Proofs.YthaamnjpjkkolabDoor

/- A slice that the call itself builds by append, told by the index. -/
namespace Go.Proofs.YthaamnjpjkkolabDoor
open Go.RowKit Go.Proofs

/-- v is a slice of n elements of type e, of one cell each, told by f: nil, or at the head of an own block from base on. -/
def Vc (w : World) (base e : Nat) (v : Value) (n : Nat) (f : Nat → Value) : Prop := w.ownsRow base e 1 v n ((List.range n).map f)

section
variable {w w' : World} {base e n : Nat} {v : Value} {f g : Nat → Value}

theorem Vc.nil (w : World) (base e : Nat) (f : Nat → Value) : Vc w base e (.slice none 0 0) 0 f := World.ownsRow_nil w base e 1

theorem Vc.congr (h : Vc w base e v n f) (hfg : ∀ i, i < n → f i = g i) : Vc w base e v n g := by
  unfold Vc at *
  rwa [show (List.range n).map g = (List.range n).map f from List.map_congr_left fun i hi => (hfg i (by simpa using hi)).symm]

theorem Vc.lt (h : Vc w base e v n f) : ∀ k, v.ownBlock = some k → base ≤ k ∧ k < w.heap.size := World.ownsRow.lt h

/-- What such a slice is, as the walk sees it. -/
theorem Vc.shape (h : Vc w base e v n f) : ∃ a b c, v = .slice a n c ∧ (0 < n → a = some ⟨b, 0, none⟩) ∧ Row w b 0 n f ∧ n ≤ c ∧ (0 < n → base ≤ b ∧ Kd w b e) ∧ (∀ k, v.ownBlock = some k → k = b) := by
  obtain ⟨hl, h⟩ := h
  rcases h with ⟨rfl, rfl⟩ | ⟨g, cap, cur, rfl, hb, hg, hn, hm, hs, ht⟩
  · exact ⟨none, 0, 0, rfl, fun h => absurd h (by omega), Row.empty _ _ _ _, Nat.le_refl _, fun h => absurd h (by omega), by simp [Value.ownBlock]⟩
  · refine ⟨_, g, cap, rfl, fun _ => rfl, ⟨fun i hi => ?_, fun i hi => ?_⟩, hn, fun _ => ⟨hb, cur, hg⟩, by simp [Value.ownBlock]⟩
    · simp only [World.cell?, hg, Nat.zero_add]
      have : cur.toList[i]? = some (f i) := by
        have e2 : (cur.toList.take (n * 1))[i]? = ((List.range n).map f)[i]? := by rw [ht]
        rw [List.getElem?_take, if_pos (by omega)] at e2
        rw [e2]; simp [hi]
      simpa using this
    · simp [World.frozen?, hg]

theorem Vc.kept {G : Nat → Prop} (h : Vc w base e v n f) (hu : Upd G w w') (hne : ∀ k, v.ownBlock = some k → ¬ G k) : Vc w' base e v n f := by
  refine ⟨h.1, ?_⟩
  rcases h.2 with hn | ⟨g, cap, cur, rfl, hb, hg, rest⟩
  · exact .inl hn
  · exact .inr ⟨g, cap, cur, rfl, hb, by rw [hu.block g (Array.getElem?_eq_some_iff.1 hg).1 (hne g rfl)]; exact hg, rest⟩
theorem Vc.alloc (h : Vc w base e v n f) (o : Obj) : Vc (w.alloc o) base e v n f := World.ownsRow.alloc h o
theorem Vc.later (h : Vc w base e v n f) (hb : Below w.heap.size w w') : Vc w' base e v n f := h.kept (Upd.of_below hb) (fun _ _ => id)
theorem Vc.drewN (h : Vc w base e v n f) (k : Nat) : Vc (w.drewN k) base e v n f := h
/-- Another block of the same kind of memory but of another element type. -/
theorem Vc.block_ne {b t : Nat} (h : Vc w base e v n f) (hk : Kd w b t) (ht : t ≠ e) : ∀ k, v.ownBlock = some k → k ≠ b := by
  intro k hv
  rcases h.2 with ⟨rfl, _⟩ | ⟨g, cap, cur, rfl, _, hg, _⟩
  · simp [Value.ownBlock] at hv
  · simp [Value.ownBlock] at hv
    subst hv
    exact (Kd.ne hk ⟨cur, hg⟩ ht).symm
end

section
variable {P : Program}

/-- 'append(s, x...)', s an own slice, x whatever: one law for all sources. -/
theorem run_append_vc (w : World) (base : Nat) (t ty e : TypeId) (z : Value) (bytes : Nat) (ht : P.underlying t = some (.slice e)) (hinfo : (P.info? e).map (fun i => (i.zero, i.size, i.bytes)) = some (some z, 1, bytes)) (hz1 : z.cells = #[z])
    (v : Value) (n : Nat) (f : Nat → Value) (hown : Vc w base e v n f) (sp : Option Addr) (m c sb so : Nat) (g : Nat → Value) (hsp : 0 < m → sp = some ⟨sb, so, none⟩) (hsrc : Rd w sb so m g) (h1 : ∀ i, i < m → (g i).oneCell' = true)
    (h63 : n + m ≤ 1099511627776) (hby : bytes ≤ 64) (hbase : base ≤ w.heap.size) :
    ∃ v' w', (Builtin.append_ #[t, t] ty #[v, .slice sp m c]).run P w = .ok v' w' ∧ Vc w' base e v' (n + m) (fun i => if i < n then f i else g (i - n)) ∧ w.grownBy w' v.ownBlock := by
  obtain ⟨i, hi, hz, hs, hb⟩ := info_parts hinfo
  have hmap : (List.range (n + m)).map (fun i => if i < n then f i else g (i - n)) = (List.range n).map f ++ (List.range m).map g := by
    rw [List.range_add, List.map_append, List.map_map]
    congr 1
    · exact List.map_congr_left fun i hi => by simp at hi; simp [hi]
    · exact List.map_congr_left fun i _ => by simp [show ¬ n + i < n by omega]
  have hmax : (1099511627776 : Nat) ≤ maxLen := by unfold maxLen; omega
  have hbound : (n + m) * bytes ≤ 140737488355328 := by
    calc (n + m) * bytes ≤ 1099511627776 * 64 := Nat.mul_le_mul h63 hby
      _ ≤ 140737488355328 := by omega
  cases sp with
  | some ad =>
    have key : ∀ (ad : Addr), (∀ j u, ((List.range m).map g)[j]? = some u → w.cell? (ad.add j) = some u) →
        ∃ v' w', (Builtin.append_ #[t, t] ty #[v, .slice (some ad) m c]).run P w = .ok v' w' ∧ w'.ownsRow base e 1 v' (n + m) ((List.range n).map f ++ (List.range m).map g) ∧ w.grownBy w' v.ownBlock := by
      intro ad hc
      obtain ⟨v', w', hr, h2, h3, _⟩ := run_append_own (P := P) w base t ty e i z 1 bytes ht hi hz hs hb (by rw [hz1]; rfl) (by decide) v n _ hown ad m c ((List.range m).map g) (by simp) hc
        (fun u hu => by obtain ⟨j, hj, rfl⟩ := List.mem_map.1 hu; exact h1 j (by simpa using hj)) (Nat.le_trans h63 hmax) hbound hbase
      exact ⟨v', w', hr, h2, h3⟩
    obtain ⟨v', w', hr, h2, h3⟩ := key ad (fun j u hj => by
      by_cases hm : j < m
      · have := hsp (by omega)
        simp at this; subst this
        have hadd : (⟨sb, so, none⟩ : Addr).add j = ⟨sb, so + j, none⟩ := by unfold Addr.add; split <;> simp_all
        rw [hadd, hsrc j hm]
        simp [hm] at hj
        rw [hj]
      · simp [hm] at hj)
    exact ⟨v', w', hr, by unfold Vc; rw [hmap]; exact h2, h3⟩
  | none =>
    have hm : m = 0 := by
      rcases Nat.eq_zero_or_pos m with h | h
      · exact h
      · have := hsp h; simp at this
    subst hm
    refine ⟨v, w, ?_, hown.congr fun i hi => by simp [show i < n by omega], ⟨rfl, rfl, rfl, Nat.le_refl _, fun _ _ _ => rfl⟩⟩
    rcases hown.2 with ⟨rfl, rfl⟩ | ⟨g, cap, cur, rfl, _, hg, hn, _, hcs, _⟩
    · simp [Builtin.append_, run_underlying ht, sizeOf, typeInfo, hi, Builtin.lenOf, Builtin.firstCells]
    · simp [Builtin.append_, run_underlying ht, sizeOf, typeInfo, hi, Builtin.lenOf, Builtin.firstCells, storeCells, hn]

theorem wpList_append_vc {w : World} {ops : Array Oper} {rest : List Oper} {o : Oper} {a : Act} {Q : Exit → Act → World → Prop} (hgd : o.guard = none) (s x : Operand) (t : TypeId)
    (ho : o.op = .call { callee := .builtin .append, args := #[s, x], argTypes := #[t, t] })
    (base : Nat) (e : TypeId) (z : Value) (bytes : Nat) (ht : P.underlying t = some (.slice e)) (hinfo : (P.info? e).map (fun i => (i.zero, i.size, i.bytes)) = some (some z, 1, bytes)) (hz1 : z.cells = #[z])
    (v : Value) (n : Nat) (f : Nat → Value) (hs : a.eval s = v) (hown : Vc w base e v n f) (sp : Option Addr) (m c sb so : Nat) (g : Nat → Value) (hx : a.eval x = .slice sp m c) (hsp : 0 < m → sp = some ⟨sb, so, none⟩) (hsrc : Rd w sb so m g) (h1 : ∀ i, i < m → (g i).oneCell' = true)
    (h63 : n + m ≤ 1099511627776) (hby : bytes ≤ 64) (hbase : base ≤ w.heap.size)
    (h : ∀ v' w', Vc w' base e v' (n + m) (fun i => if i < n then f i else g (i - n)) → Upd (fun b => some b = v.ownBlock) w w' → wpList P ops Q rest (a.put o.dst v') w') : wpList P ops Q (o :: rest) a w := by
  refine wpList_plain hgd fun K hK => ?_
  obtain ⟨v', w', hr, h2, h3⟩ := run_append_vc (P := P) w base t o.type e z bytes ht hinfo hz1 v n f hown sp m c sb so g hsp hsrc h1 h63 hby hbase
  unfold Oper.wp execOp
  simp only [ho, resolve, invoke, builtin, Sem.run_bind, Sem.run_pure, Result.andThen_ok, List.map_toArray, List.map_cons, List.map_nil, hs, hx, hr]
  exact hK _ _ (h v' w' h2 (Upd.of_grown h3))

/-- 'append(s, x)': the one element lies in a block of its own. -/
theorem wpList_append_one {w : World} {ops : Array Oper} {rest : List Oper} {o : Oper} {a : Act} {Q : Exit → Act → World → Prop} (hgd : o.guard = none) (s x : Operand) (t : TypeId)
    (ho : o.op = .call { callee := .builtin .append, args := #[s, x], argTypes := #[t, t] })
    (base : Nat) (e : TypeId) (z : Value) (bytes : Nat) (ht : P.underlying t = some (.slice e)) (hinfo : (P.info? e).map (fun i => (i.zero, i.size, i.bytes)) = some (some z, 1, bytes)) (hz1 : z.cells = #[z])
    (v : Value) (n : Nat) (f : Nat → Value) (hs : a.eval s = v) (hown : Vc w base e v n f) (u : Value) (tu : TypeId) (hx : a.eval x = .slice (some ⟨w.heap.size, 0, none⟩) 1 1) (h1 : u.oneCell' = true)
    (h63 : n + 1 ≤ 1099511627776) (hby : bytes ≤ 64) (hbase : base ≤ w.heap.size)
    (h : ∀ v' w', Vc w' base e v' (n + 1) (fun i => if i < n then f i else u) → Upd (fun b => some b = v.ownBlock) w w' → wpList P ops Q rest (a.put o.dst v') w') : wpList P ops Q (o :: rest) a (w.alloc (.cells #[u] tu)) := by
  refine wpList_append_vc hgd s x t ho base e z bytes ht hinfo hz1 v n f hs (hown.alloc _) (some ⟨w.heap.size, 0, none⟩) 1 1 w.heap.size 0 (fun _ => u) hx (fun _ => rfl) ?_ (fun _ _ => h1) h63 hby (by rw [Deep.nblk_alloc]; omega) ?_
  · intro i hi
    have : i = 0 := by omega
    subst this
    simp only [World.cell?, Nat.zero_add, Deep.blk_alloc_new]
    simp
  · intro v' w' hv hu
    exact h v' w' hv (((Upd.refl _ w).alloc _).trans hu fun b hb _ => hb)
end

end Go.Proofs.YthaamnjpjkkolabDoor

/- A slice of bytes, as a row. -/
namespace Go.Proofs.YthaamnjpjkkolabDoor
open Go.RowKit Go.Proofs
set_option maxRecDepth 100000
set_option linter.unusedVariables false

/-- A slice of bytes: where it lies, how long it is, what it holds. -/
structure Sl where
  a : Option Addr
  b : Nat
  o : Nat
  n : Nat
  c : Nat
  x : Nat → UInt8

abbrev Sl.v (s : Sl) : Value := .slice s.a s.n s.c

structure Sl.ok (s : Sl) (w : World) : Prop where
  addr : 0 < s.n → s.a = some ⟨s.b, s.o, none⟩
  rd : Rd w s.b s.o s.n (bs s.x)
  cap : s.n ≤ s.c
  max : s.c ≤ 140737488355328

theorem Sl.ok.later {s : Sl} {w w' : World} (h : s.ok w) (hb : Below w.heap.size w w') : s.ok w' := ⟨h.addr, h.rd.later hb, h.cap, h.max⟩

theorem mixed : Tryd.prog.follows .mixedOrders = true := by kernel_rfl
end Go.Proofs.YthaamnjpjkkolabDoor

/- A list of rows that came in; what a law leaves. -/
namespace Go.Proofs.YthaamnjpjkkolabDoor
open Go.RowKit Go.Proofs
set_option maxRecDepth 100000
set_option linter.unusedVariables false

theorem Sl.ok.upd {s : Sl} {w w' : World} {G : Nat → Prop} (h : s.ok w) (hu : Upd G w w') (hg : 0 < s.n → ¬ G s.b) : s.ok w' := ⟨h.addr, h.rd.upd hu hg, h.cap, h.max⟩

/-- A list of rows that came in. -/
structure Rws (w : World) (a : Option Addr) (b o n c : Nat) (S : Nat → Sl) : Prop where
  addr : 0 < n → a = some ⟨b, o, none⟩
  out : Rd w b o n (fun i => (S i).v)
  ok : ∀ i, i < n → (S i).ok w
  cap : n ≤ c
  max : c ≤ 140737488355328
theorem Rws.later {w w' : World} {a : Option Addr} {b o n c : Nat} {S : Nat → Sl} (h : Rws w a b o n c S) (hb : Below w.heap.size w w') : Rws w' a b o n c S :=
  ⟨h.addr, h.out.later hb, fun i hi => (h.ok i hi).later hb, h.cap, h.max⟩
theorem Rws.upd {w w' : World} {G : Nat → Prop} {a : Option Addr} {b o n c : Nat} {S : Nat → Sl} (h : Rws w a b o n c S) (hu : Upd G w w') (hb : 0 < n → ¬ G b) (hs : ∀ i, i < n → 0 < (S i).n → ¬ G (S i).b) : Rws w' a b o n c S :=
  ⟨h.addr, h.out.upd hu hb, fun i hi => (h.ok i hi).upd hu (hs i hi), h.cap, h.max⟩

def LawTrue (w : World) (e : Ending) (w' : World) : Prop := e = .returned (.bool true) ∧ Below w.heap.size w w'
end Go.Proofs.YthaamnjpjkkolabDoor
