import Derived.Test.YtgelingkifafeaaGreatDoorBu02
import Derived.StillTailTactics
import Derived.Deep.RegionHeld3
import Derived.Deep.RegionLaw
import Derived.Deep.RegionWith
import Derived.Deep.CutRange
import Derived.Deep.DeepCutAuto
import Derived.Deep.Light
import Derived.Deep.DeepFit
import Derived.Laws.CopyOwn
import Derived.Laws.Rows
import Derived.Laws.Tables
import Derived.Laws.IdiomCopy
/- Rows of cells, told by their index: what a store, a new block, a draw make of them. -/
namespace Go.Proofs.YtgelingkifafeaaGreatDoor
open Go.RowKit Go.Proofs

/-- From place o of block b on lie n cells, none frozen, cell i holding f i. -/
structure Row (w : World) (b o n : Nat) (f : Nat → Value) : Prop where
  cell : ∀ i, i < n → w.cell? ⟨b, o + i, none⟩ = some (f i)
  free : ∀ i, i < n → w.frozen? ⟨b, o + i, none⟩ = false

/-- From place o of block b on lie n cells, cell i holding f i. -/
def Rd (w : World) (b o n : Nat) (f : Nat → Value) : Prop := ∀ i, i < n → w.cell? ⟨b, o + i, none⟩ = some (f i)

section
variable {w w' : World} {b o n : Nat} {f g : Nat → Value}

theorem Row.rd (h : Row w b o n f) : Rd w b o n f := h.cell
theorem Rd.lt (h : Rd w b o n f) (hn : 0 < n) : b < w.heap.size := World.block_lt_of_cell? _ _ (h 0 hn)
theorem Row.lt (h : Row w b o n f) (hn : 0 < n) : b < w.heap.size := h.rd.lt hn

theorem Row.congr (h : Row w b o n f) (e : ∀ i, i < n → f i = g i) : Row w b o n g :=
  ⟨fun i hi => by rw [h.cell i hi, e i hi], h.free⟩
theorem Rd.congr (h : Rd w b o n f) (e : ∀ i, i < n → f i = g i) : Rd w b o n g := fun i hi => by rw [h i hi, e i hi]

theorem Rd.of_block (h : Rd w b o n f) (e : 0 < n → w'.heap[b]? = w.heap[b]?) : Rd w' b o n f := fun i hi => by
  rw [← h i hi]; exact World.cell?_of_block (w := w) (a := ⟨b, o + i, none⟩) (e (by omega))
theorem Row.of_block (h : Row w b o n f) (e : 0 < n → w'.heap[b]? = w.heap[b]?) : Row w' b o n f :=
  ⟨h.rd.of_block e, fun i hi => by rw [← h.free i hi]; exact World.frozen?_of_block (w := w) (a := ⟨b, o + i, none⟩) (e (by omega))⟩

theorem Rd.below {B : Nat} (h : Rd w b o n f) (hb : Below B w w') (hB : 0 < n → b < B) : Rd w' b o n f := h.of_block fun hn => hb.block b (hB hn)
theorem Row.below {B : Nat} (h : Row w b o n f) (hb : Below B w w') (hB : 0 < n → b < B) : Row w' b o n f := h.of_block fun hn => hb.block b (hB hn)
/-- Behind a call that makes memory alone. -/
theorem Rd.later (h : Rd w b o n f) (hb : Below w.heap.size w w') : Rd w' b o n f := h.below hb h.lt
theorem Row.later (h : Row w b o n f) (hb : Below w.heap.size w w') : Row w' b o n f := h.below hb h.lt

theorem Rd.alloc (h : Rd w b o n f) (x : Obj) : Rd (w.alloc x) b o n f := h.of_block fun hn => Deep.blk_alloc_lt _ _ _ (h.lt hn)
theorem Row.alloc (h : Row w b o n f) (x : Obj) : Row (w.alloc x) b o n f := h.of_block fun hn => Deep.blk_alloc_lt _ _ _ (h.lt hn)
theorem Rd.drewN (h : Rd w b o n f) (k : Nat) : Rd (w.drewN k) b o n f := fun i hi => h i hi
theorem Row.drew (h : Row w b o n f) : Row w.drew b o n f := ⟨h.cell, h.free⟩
theorem Row.drewN (h : Row w b o n f) (k : Nat) : Row (w.drewN k) b o n f := ⟨h.cell, h.free⟩
theorem Row.grown {row : Option Nat} (h : Row w b o n f) (hg : w.grownBy w' row) (hr : 0 < n → some b ≠ row) : Row w' b o n f :=
  h.of_block fun hn => hg.block b (h.lt hn) (hr hn)

theorem Rd.other (h : Rd w b o n f) {a : Addr} (ha : 0 < n → a.block ≠ b) (v : Value) : Rd (w.setCell a v) b o n f :=
  h.of_block fun hn => Deep.blk_setCell_other _ _ _ _ (Ne.symm (ha hn))
theorem Row.other (h : Row w b o n f) {a : Addr} (ha : a.block ≠ b) (v : Value) : Row (w.setCell a v) b o n f :=
  h.of_block fun _ => Deep.blk_setCell_other _ _ _ _ (Ne.symm ha)

theorem cell_set_same {w : World} {b k : Nat} {u : Value} (h : w.cell? ⟨b, k, none⟩ = some u) (v : Value) : (w.setCell ⟨b, k, none⟩ v).cell? ⟨b, k, none⟩ = some v := by
  unfold World.cell? at h ⊢
  unfold World.setCell
  simp only [Array.getElem?_modify, if_true]
  cases hb : w.heap[b]? with
  | none => simp [hb] at h
  | some ob =>
    cases ob <;> simp_all
    obtain ⟨hlt, _⟩ := Array.getElem?_eq_some_iff.1 h
    rw [Array.getElem?_setIfInBounds]
    simp [hlt]

theorem cell_set_off {w : World} {b k j : Nat} (h : j ≠ k) (v : Value) : (w.setCell ⟨b, k, none⟩ v).cell? ⟨b, j, none⟩ = w.cell? ⟨b, j, none⟩ := by
  unfold World.cell? World.setCell
  simp only [Array.getElem?_modify, if_true]
  cases hb : w.heap[b]? with
  | none => simp
  | some ob =>
    cases ob <;> simp
    rw [Array.getElem?_setIfInBounds]
    simp [Ne.symm h]

theorem frozen_set {w : World} {a p : Addr} (v : Value) : (w.setCell a v).frozen? p = w.frozen? p := by
  unfold World.frozen? World.setCell
  simp only [Array.getElem?_modify]
  by_cases e : a.block = p.block
  · rw [if_pos e]
    cases hb : w.heap[p.block]? with
    | none => simp
    | some ob => cases ob <;> simp
  · rw [if_neg e]

/-- A store into the row. -/
theorem Row.set (h : Row w b o n f) {i : Nat} (_hi : i < n) (v : Value) : Row (w.setCell ⟨b, o + i, none⟩ v) b o n (fun j => if j = i then v else f j) := by
  refine ⟨fun j hj => ?_, fun j hj => by rw [frozen_set]; exact h.free j hj⟩
  by_cases e : j = i
  · subst e; simp only [if_true]; exact cell_set_same (h.cell j hj) v
  · simp only [if_neg e]
    rw [cell_set_off (by omega)]; exact h.cell j hj

/-- A store into another place of the same block. -/
theorem Row.aside (h : Row w b o n f) {k : Nat} (hk : k < o ∨ o + n ≤ k) (v : Value) : Row (w.setCell ⟨b, k, none⟩ v) b o n f :=
  ⟨fun j hj => by rw [cell_set_off (by omega)]; exact h.cell j hj, fun j hj => by rw [frozen_set]; exact h.free j hj⟩

/-- A part of a row. -/
theorem Row.sub (h : Row w b o n f) {k m : Nat} (hk : k + m ≤ n) : Row w b (o + k) m (fun i => f (k + i)) :=
  ⟨fun i hi => by rw [Nat.add_assoc]; exact h.cell (k + i) (by omega), fun i hi => by rw [Nat.add_assoc]; exact h.free (k + i) (by omega)⟩
theorem Row.take (h : Row w b o n f) {m : Nat} (hm : m ≤ n) : Row w b o m f := ⟨fun i hi => h.cell i (by omega), fun i hi => h.free i (by omega)⟩
theorem Rd.take (h : Rd w b o n f) {m : Nat} (hm : m ≤ n) : Rd w b o m f := fun i hi => h i (by omega)

theorem Row.made {t : TypeId} (h : w.rowIs b t n f) : Row w b 0 n f := ⟨fun i hi => by rw [Nat.zero_add]; exact h.cell hi, fun i _ => h.frozen _⟩
theorem Row.empty (w : World) (b o : Nat) (f : Nat → Value) : Row w b o 0 f := ⟨fun i hi => absurd hi (by omega), fun i hi => absurd hi (by omega)⟩
theorem Rd.empty (w : World) (b o : Nat) (f : Nat → Value) : Rd w b o 0 f := fun i hi => absurd hi (by omega)
end

/-- A row of a new block, by make: n times z. -/
theorem Row.new (w : World) (z : Value) (n : Nat) (t : TypeId) : Row (w.alloc (.cells (madeCells #[z] n) t)) w.heap.size 0 n (fun _ => z) :=
  Row.made (World.rowIs_made w z n t)


/-! ### What may have turned -/

/-- Of the blocks that there were, those of G alone may have turned. -/
structure Upd (G : Nat → Prop) (w w' : World) : Prop where
  os : w'.os = w.os
  tape : w'.tape = w.tape
  output : w'.output = w.output
  size : w.heap.size ≤ w'.heap.size
  block : ∀ k, k < w.heap.size → ¬ G k → w'.heap[k]? = w.heap[k]?

namespace Upd
variable {G H : Nat → Prop} {w w' w'' : World}
theorem refl (G : Nat → Prop) (w : World) : Upd G w w := ⟨rfl, rfl, rfl, Nat.le_refl _, fun _ _ _ => rfl⟩
theorem trans (h : Upd G w w') (k : Upd H w' w'') (hH : ∀ b, H b → b < w.heap.size → G b) : Upd G w w'' :=
  ⟨k.os.trans h.os, k.tape.trans h.tape, k.output.trans h.output, Nat.le_trans h.size k.size, fun b hb hg =>
    (k.block b (Nat.lt_of_lt_of_le hb h.size) fun hh => hg (hH b hh hb)).trans (h.block b hb hg)⟩
theorem mono (h : Upd G w w') (hG : ∀ b, b < w.heap.size → G b → H b) : Upd H w w' :=
  ⟨h.os, h.tape, h.output, h.size, fun b hb hg => h.block b hb fun hh => hg (hG b hb hh)⟩
theorem drew (h : Upd G w w') : Upd G w w'.drew := ⟨h.os, h.tape, h.output, h.size, h.block⟩
theorem drewN (h : Upd G w w') (n : Nat) : Upd G w (w'.drewN n) := ⟨h.os, h.tape, h.output, h.size, h.block⟩
theorem alloc (h : Upd G w w') (o : Obj) : Upd G w (w'.alloc o) :=
  ⟨h.os, h.tape, h.output, Nat.le_trans h.size (by rw [Deep.nblk_alloc]; omega), fun b hb hg => by
    rw [Deep.blk_alloc_lt _ _ _ (Nat.lt_of_lt_of_le hb h.size)]; exact h.block b hb hg⟩
theorem setCell (h : Upd G w w') {a : Addr} (ha : a.block < w.heap.size → G a.block) (v : Value) : Upd G w (w'.setCell a v) :=
  ⟨h.os, h.tape, h.output, Nat.le_trans h.size (by rw [Deep.nblk_setCell]; exact Nat.le_refl _), fun b hb hg => by
    have hne : b ≠ a.block := fun e => hg (by subst e; exact ha hb)
    rw [Deep.blk_setCell_other _ _ _ _ hne]; exact h.block b hb hg⟩
theorem of_below (h : Below w.heap.size w w') : Upd (fun _ => False) w w' := ⟨h.os, h.tape, h.output, h.size, fun b hb _ => h.block b hb⟩
theorem below {B : Nat} (h : Upd G w w') (hG : ∀ b, G b → B ≤ b) (hB : B ≤ w.heap.size) : Below B w w' :=
  ⟨h.os, h.tape, h.output, h.size, fun b hb => h.block b (by omega) fun g => by have := hG b g; omega⟩
theorem of_grown {row : Option Nat} (h : w.grownBy w' row) : Upd (fun b => some b = row) w w' := ⟨h.os, h.tape, h.output, h.size, h.block⟩
end Upd

theorem Rd.upd {G : Nat → Prop} {w w' : World} {b o n : Nat} {f : Nat → Value} (h : Rd w b o n f) (hu : Upd G w w') (hg : 0 < n → ¬ G b) : Rd w' b o n f :=
  h.of_block fun hn => hu.block b (h.lt hn) (hg hn)
theorem Row.upd {G : Nat → Prop} {w w' : World} {b o n : Nat} {f : Nat → Value} (h : Row w b o n f) (hu : Upd G w w') (hg : 0 < n → ¬ G b) : Row w' b o n f :=
  h.of_block fun hn => hu.block b (h.lt hn) (hg hn)
theorem Below.upd {B : Nat} {G : Nat → Prop} {w0 w w' : World} (h : Below B w0 w) (hu : Upd G w w') (hG : ∀ b, G b → B ≤ b) (hB : B ≤ w.heap.size) : Below B w0 w' :=
  h.trans (hu.below hG hB)

/-- Block b is a row of cells of type t, none frozen. -/
def Kd (w : World) (b t : Nat) : Prop := ∃ c, w.heap[b]? = some (.cells c t (0, 0))

theorem Kd.lt {w : World} {b t : Nat} (h : Kd w b t) : b < w.heap.size := by
  obtain ⟨c, h⟩ := h; exact (Array.getElem?_eq_some_iff.1 h).1
theorem Kd.ne {w : World} {b b' t t' : Nat} (h : Kd w b t) (h' : Kd w b' t') (e : t ≠ t') : b ≠ b' := by
  rintro rfl
  obtain ⟨c, h⟩ := h; obtain ⟨c', h'⟩ := h'
  rw [h] at h'; simp at h'; exact e h'.2
theorem Kd.of_block {w w' : World} {b t : Nat} (h : Kd w b t) (e : w'.heap[b]? = w.heap[b]?) : Kd w' b t := by
  obtain ⟨c, h⟩ := h; exact ⟨c, e.trans h⟩
theorem Kd.upd {G : Nat → Prop} {w w' : World} {b t : Nat} (h : Kd w b t) (hu : Upd G w w') (hg : ¬ G b) : Kd w' b t := h.of_block (hu.block b h.lt hg)
theorem Kd.later {w w' : World} {b t : Nat} (h : Kd w b t) (hb : Below w.heap.size w w') : Kd w' b t := h.of_block (hb.block b h.lt)
theorem Kd.alloc {w : World} {b t : Nat} (h : Kd w b t) (o : Obj) : Kd (w.alloc o) b t := h.of_block (Deep.blk_alloc_lt _ _ _ h.lt)
theorem Kd.drewN {w : World} {b t : Nat} (h : Kd w b t) (k : Nat) : Kd (w.drewN k) b t := h
theorem Kd.new (w : World) (c : Array Value) (t : Nat) : Kd (w.alloc (.cells c t)) w.heap.size t := ⟨c, Deep.blk_alloc_new _ _⟩
theorem Kd.set {w : World} {b t : Nat} (h : Kd w b t) (a : Addr) (v : Value) : Kd (w.setCell a v) b t := by
  obtain ⟨c, h⟩ := h
  by_cases e : b = a.block
  · subst e
    refine ⟨if a.spot.isSome then c else c.setIfInBounds a.off v, ?_⟩
    simp only [World.setCell, Array.getElem?_modify, if_true, h, Option.map_some]
  · exact ⟨c, by rw [Deep.blk_setCell_other _ _ _ _ e]; exact h⟩
theorem Kd.setCells {b t g : Nat} : ∀ (vs : List Value) (o : Nat) {w : World}, Kd w b t → Kd (w.setCells g o vs) b t
  | [], _, _, h => h
  | v :: r, o, _, h => by rw [World.setCells]; exact Kd.setCells r (o + 1) (h.set _ v)

/-- No row has changed its kind. -/
def KdKept (w w' : World) : Prop := ∀ b t, Kd w b t → Kd w' b t
theorem KdKept.refl (w : World) : KdKept w w := fun _ _ h => h
theorem KdKept.trans {w w' w'' : World} (h : KdKept w w') (k : KdKept w' w'') : KdKept w w'' := fun b t x => k b t (h b t x)
theorem KdKept.set {w w' : World} (h : KdKept w w') (a : Addr) (v : Value) : KdKept w (w'.setCell a v) := fun b t x => (h b t x).set a v
theorem KdKept.alloc {w w' : World} (h : KdKept w w') (o : Obj) : KdKept w (w'.alloc o) := fun b t x => (h b t x).alloc o
theorem KdKept.drewN {w w' : World} (h : KdKept w w') (n : Nat) : KdKept w (w'.drewN n) := h
theorem KdKept.below {w w' : World} (h : Below w.heap.size w w') : KdKept w w' := fun _ _ x => x.later h

/-! ### copy -/

theorem setCells_heap {b : Nat} : ∀ (vs : List Value) (o : Nat) (w : World), Upd (· = b) w (w.setCells b o vs) ∧ (w.setCells b o vs).heap.size = w.heap.size
  | [], _, w => ⟨Upd.refl _ _, rfl⟩
  | v :: r, o, w => by
    have ih := setCells_heap (b := b) r (o + 1) (w.setCell ⟨b, o, none⟩ v)
    rw [World.setCells]
    exact ⟨((Upd.refl (· = b) w).setCell (fun _ => rfl) v).trans ih.1 (fun _ h _ => h.symm ▸ rfl), by rw [ih.2, Deep.nblk_setCell]⟩

theorem Row.setCells {w : World} {b o n : Nat} {f : Nat → Value} (h : Row w b o n f) (vs : List Value) (hv : vs.length ≤ n) :
    Row (w.setCells b o vs) b o n (fun i => if hi : i < vs.length then vs[i] else f i) := by
  refine ⟨fun i hi => ?_, fun i hi => by rw [World.frozen?_setCells]; exact h.free i hi⟩
  by_cases hl : i < vs.length
  · rw [World.cell?_setCells_in b vs o w (fun j hj => by rw [h.cell j (by omega)]; rfl) i hl]; simp [hl]
  · rw [World.cell?_setCells_out b vs o w _ (fun _ _ => .inr (by show o + vs.length ≤ o + i; omega)), h.cell i hi]; simp [hl]

section
variable {P : Program}
/-- 'copy(dst, src)', told by the index: at most one of the two need have an address where nothing goes over. -/
theorem wpList_copy_fn {w : World} {ops : Array Oper} {rest : List Oper} {o : Oper} {a : Act} {Q : Exit → Act → World → Prop} (hgd : o.guard = none) (d s : Operand) (dT sT : TypeId)
    (ho : o.op = .call { callee := .builtin .copy, args := #[d, s], argTypes := #[dT, sT] }) (elem : TypeId) (hu : P.underlying dT = some (.slice elem)) (hsz : (P.info? elem).map (·.size) = some 1)
    (dp sp : Option Addr) (dLen dCap sLen sCap : Nat) (hd : a.eval d = .slice dp dLen dCap) (hs : a.eval s = .slice sp sLen sCap)
    (m db dof n sb so : Nat) (f g : Nat → Value) (hm : m = Nat.min sLen dLen) (hn : m ≤ n) (hdst : Row w db dof n f) (hsrc : Rd w sb so m g)
    (hdp : 0 < m → dp = some ⟨db, dof, none⟩) (hsp : 0 < m → sp = some ⟨sb, so, none⟩) (h1 : ∀ i, i < m → (g i).oneCell' = true)
    (h : ∀ w', Upd (· = db) w w' → w'.heap.size = w.heap.size → KdKept w w' → Row w' db dof n (fun i => if i < m then g i else f i) → wpList P ops Q rest (a.put o.dst (goInt m)) w') :
    wpList P ops Q (o :: rest) a w := by
  by_cases h0 : m = 0
  · refine wpList_copy_nothing hgd d s dT sT ho elem hu hsz dp sp dLen dCap sLen sCap hd hs (by omega) ?_
    have := h w (Upd.refl _ _) rfl (fun _ _ h => h) (hdst.congr fun i _ => by simp [h0])
    rwa [h0] at this
  · have ep := hdp (by omega)
    have es := hsp (by omega)
    subst ep; subst es
    refine wpList_plain hgd fun K hK => ?_
    generalize hcs : (List.range m).map g = cs
    have hlen : cs.length = m := by simp [← hcs]
    have hget : ∀ j (hj : j < cs.length), cs[j] = g j := by intro j hj; simp [← hcs]
    have hadd : ∀ (b o j : Nat), (⟨b, o, none⟩ : Addr).add j = ⟨b, o + j, none⟩ := by intro b o j; unfold Addr.add; split <;> simp_all
    have hrun := run_copy_cells (P := P) w dT sT o.type elem db dof dLen dCap ⟨sb, so, none⟩ sLen sCap cs hu hsz (by rw [hlen, hm])
      (fun j v hj => by
        obtain ⟨hl, e⟩ := List.getElem?_eq_some_iff.1 hj
        rw [hadd, ← e, hget]; exact hsrc j (by omega))
      (fun j hj => by rw [hdst.cell j (by omega)]; rfl) (fun j hj => hdst.free j (by omega))
      (fun v hv => by
        obtain ⟨j, hj, rfl⟩ := List.getElem_of_mem hv
        rw [hget]; exact h1 j (by omega))
    unfold Oper.wp
    simp [execOp, ho, resolve, invoke, builtin, hd, hs, hrun, Result.andThen]
    rw [hlen]
    have hh := setCells_heap (b := db) cs dof w
    refine hK _ _ (h _ hh.1 hh.2 (fun _ _ hk => hk.setCells cs dof) ((hdst.setCells cs (by omega)).congr fun i _ => ?_))
    by_cases hi : i < m
    · simp [hi, hlen, hget]
    · simp [hi, hlen]
end


/-! ### The types of bytes and rows of bytes -/

theorem infoU8 : (Tryz.prog.info? 5).map (fun i => (i.zero, i.size, i.bytes)) = some (some (.int .u8 0), 1, 1) := by kernel_rfl
theorem infoBs : (Tryz.prog.info? 49).map (fun i => (i.zero, i.size, i.bytes)) = some (some (.slice none 0 0), 1, 24) := by kernel_rfl
theorem sizeU8 : (Tryz.prog.info? 5).map (·.size) = some 1 := by kernel_rfl

/-- make([]byte, n). -/
theorem make_bytes (n : Int) (h0 : 0 ≤ n) (h1 : n ≤ 1000000) (w : World) :
    (Instr.makeSlice 49 (.int .i64 n) (.int .i64 n)).run Tryz.prog w = .ok (.slice (some ⟨w.heap.size, 0, none⟩) n.toNat n.toNat) (w.alloc (.cells (madeCells #[.int .u8 0] n.toNat) 5)) := by
  have := run_make_row' (P := Tryz.prog) 49 5 (.int .u8 0) 1 Tryz.underlying49 infoU8 rfl .i64 .i64 n.toNat (by omega) (by omega) w
  rwa [Int.toNat_of_nonneg h0] at this

end Go.Proofs.YtgelingkifafeaaGreatDoor

/- The law's small helpers: same, roomy, still. -/
namespace Go.Proofs.YtgelingkifafeaaGreatDoor
open Go.RowKit Go.Proofs
set_option maxRecDepth 100000
set_option linter.unusedVariables false

/-- The bytes of a row. -/
abbrev bs (x : Nat → UInt8) : Nat → Value := fun i => B (x i)

/-- Are they the same up to k? -/
def sameTo (x y : Nat → UInt8) (k : Nat) : Prop := ∀ i < k, x i = y i
theorem sameTo_next {x y : Nat → UInt8} {k : Nat} (h : sameTo x y k) (e : x k = y k) : sameTo x y (k + 1) := by
  intro i hi
  by_cases h' : i = k
  · subst h'; exact e
  · exact h i (by omega)

def sameB (n m : Nat) (x y : Nat → UInt8) : Bool := n == m && (List.range n).all fun i => x i == y i
theorem sameB_iff {n m : Nat} {x y : Nat → UInt8} : sameB n m x y = true ↔ n = m ∧ sameTo x y n := by simp [sameB, sameTo]
theorem sameB_len {n m : Nat} {x y : Nat → UInt8} (h : n ≠ m) : sameB n m x y = false := by
  rw [Bool.eq_false_iff]; exact fun e => h (sameB_iff.1 e).1
theorem sameB_no {n k : Nat} {x y : Nat → UInt8} (hk : k < n) (h : x k ≠ y k) : sameB n n x y = false := by
  rw [Bool.eq_false_iff]; exact fun e => h ((sameB_iff.1 e).2 k hk)
theorem sameB_yes {n : Nat} {x y : Nat → UInt8} (h : sameTo x y n) : sameB n n x y = true := sameB_iff.2 ⟨rfl, h⟩
theorem ret_bool {a b : Bool} (h : a = b) : Ending.returned (.bool a) = .returned (.bool b) := by rw [h]
theorem byte_ne {x y : UInt8} (h : (((x.toNat : Int)) != (y.toNat : Int)) = true) : x ≠ y := by
  rintro rfl; simp at h
theorem byte_eq {x y : UInt8} (h : (((x.toNat : Int)) != (y.toNat : Int)) = false) : x = y := by
  simp at h; exact UInt8.toNat.inj (by omega)

/-- What roomy makes: the bytes, then 71 and 72. -/
def roomX (n : Nat) (x : Nat → UInt8) : Nat → UInt8 := fun i => if i < n then x i else if i = n then 71 else 72

/-- A byte turned within a row. -/
theorem Row.set8 {w : World} {g n k : Nat} {z : Nat → UInt8} (h : Row w g 0 n (bs z)) (hk : k < n) {v : Int} (u : UInt8) (hv : v = (u.toNat : Int)) :
    Row (w.setCell ⟨g, k, none⟩ (.int .u8 v)) g 0 n (bs (fun j => if j = k then u else z j)) := by
  have := h.set hk (.int .u8 v)
  rw [Nat.zero_add] at this
  refine this.congr fun j _ => ?_
  by_cases e : j = k <;> simp [e, bs, B, hv]

theorem roomy_done {w w1 : World} {n : Nat} {x : Nat → UInt8} {ob : Obj}
    (hu : Upd (· = w.heap.size) (w.alloc ob) w1) (hz : w1.heap.size = (w.alloc ob).heap.size)
    (hr : Row w1 w.heap.size 0 (n + 2) fun i => if i < n then bs x i else .int .u8 0) (hk : Kd w1 w.heap.size 5) {w2 : World}
    (e : w2 = (w1.setCell ⟨w.heap.size, n, none⟩ (.int .u8 71)).setCell ⟨w.heap.size, n + 1, none⟩ (.int .u8 72)) :
    Below w.heap.size w w2 ∧ w2.heap.size = w.heap.size + 1 ∧ Row w2 w.heap.size 0 (n + 2) (bs (roomX n x)) ∧ Kd w2 w.heap.size 5 := by
  subst e
  refine ⟨?_, ?_, ?_, (hk.set _ _).set _ _⟩
  · have h1 := ((hu.setCell (a := ⟨w.heap.size, n, none⟩) (fun _ => rfl) (.int .u8 71)).setCell (a := ⟨w.heap.size, n + 1, none⟩) (fun _ => rfl) (.int .u8 72))
    exact Below.upd ((Below.refl w.heap.size w).alloc (Nat.le_refl _) ob) h1 (fun b hb => by omega) (by rw [Deep.nblk_alloc]; omega)
  · rw [Deep.nblk_setCell, Deep.nblk_setCell, hz, Deep.nblk_alloc]
  · have h1 := hr.set (i := n) (by omega) (.int .u8 71)
    have h2 := h1.set (i := n + 1) (by omega) (.int .u8 72)
    simp only [Nat.zero_add] at h2
    refine h2.congr fun i hi => ?_
    unfold roomX bs
    by_cases e1 : i = n + 1
    · subst e1; simp [show ¬ n + 1 < n by omega]
    · by_cases e2 : i = n
      · subst e2; simp
      · simp [e1, e2, show i < n by omega]
end Go.Proofs.YtgelingkifafeaaGreatDoor

/- Whole arrays, by value: a row of cells as one value; load, store, index of it. -/
namespace Go.Proofs.YtgelingkifafeaaGreatDoor
open Go.RowKit Go.Proofs
set_option maxRecDepth 100000
set_option linter.unusedVariables false

/-- The bytes of a row (as bs). -/
abbrev rb (x : Nat → UInt8) : Nat → Value := fun i => B (x i)

/-- n cells, told by the place. -/
def bc (n : Nat) (f : Nat → Value) : Array Value := ((List.range n).map f).toArray
theorem bc_size (n : Nat) (f : Nat → Value) : (bc n f).size = n := by simp [bc]
theorem bc_at {n : Nat} (f : Nat → Value) {j : Nat} (h : j < n) : (bc n f)[j]? = some (f j) := by simp [bc, h]
theorem bc_none {n : Nat} (f : Nat → Value) {j : Nat} (h : ¬ j < n) : (bc n f)[j]? = none := by simp [bc]; omega
theorem bc_congr {n : Nat} {f g : Nat → Value} (h : ∀ j, j < n → f j = g j) : bc n f = bc n g := by
  unfold bc; rw [List.map_congr_left fun j hj => h j (by simpa using hj)]
/-- Zeroes, as the walk shows them. -/
abbrev zc : Nat → Value := fun _ => .int .u8 0
abbrev av (n : Nat) (f : Nat → Value) : Value := .agg (bc n f)
theorem Row.box (w : World) (n : Nat) (f : Nat → Value) (t : TypeId) : Row (w.alloc (.cells (bc n f) t)) w.heap.size 0 n f := by
  refine ⟨fun i hi => ?_, fun i hi => ?_⟩
  · simp only [World.cell?, Nat.zero_add, Deep.blk_alloc_new]
    exact bc_at f hi
  · simp only [World.frozen?, Deep.blk_alloc_new]; simp

section
variable {P : Program}
theorem run_load_rd {w : World} {ty : TypeId} {b o n : Nat} {f : Nat → Value} {d : TypeDesc} (h : Rd w b o n f) (hu : P.underlying ty = some d) (hd : (match d with | .struct _ | .array _ _ => true | _ => false) = true) (hi : (P.info? ty).map (·.size) = some n) :
    (loadVar ty ⟨b, o, none⟩).run P w = .ok (av n f) w := by
  have hl : (loadCells ⟨b, o, none⟩ ((List.range n).map f).length).run P w = .ok ((List.range n).map f).toArray w :=
    run_loadCells_list (P := P) w ⟨b, o, none⟩ _ (fun j v hv => by
      have hadd : (⟨b, o, none⟩ : Addr).add j = ⟨b, o + j, none⟩ := by unfold Addr.add; split <;> simp_all
      by_cases hj : j < n
      · rw [hadd, h j hj]; simpa [hj] using hv
      · simp [hj] at hv)
  cases hq : P.info? ty with
  | none => simp [hq] at hi
  | some i =>
    have hs : i.size = n := by simpa [hq] using hi
    have hagg : (isAgg ty).run P w = .ok true w := by
      unfold isAgg
      rw [Sem.run_bind, run_underlying hu w]
      cases d <;> simp_all
    simp only [List.length_map, List.length_range] at hl
    simp [loadVar, Sem.run_bind, hagg, sizeOf, typeInfo, hq, hs, hl, bc]
theorem wpList_load_rd {ops : Array Oper} {rest : List Oper} {o : Oper} {a : Act} {w : World} {Q : Exit → Act → World → Prop} (hgd : o.guard = none) (ty : TypeId) (x : Operand) (ho : o.op = .load ty x)
    {b off n : Nat} {f : Nat → Value} {d : TypeDesc} (hx : a.eval x = .pointer (some ⟨b, off, none⟩)) (h : Rd w b off n f) (hu : P.underlying ty = some d) (hd : (match d with | .struct _ | .array _ _ => true | _ => false) = true) (hi : (P.info? ty).map (·.size) = some n)
    (hk : wpList P ops Q rest (a.put o.dst (av n f)) w) : wpList P ops Q (o :: rest) a w := by
  refine wpList_plain hgd fun K hK => ?_
  unfold Oper.wp execOp
  simp only [ho, hx, Instr.loadAt, Instr.sureAddr, Sem.run_bind, Sem.run_pure, Result.andThen_ok, run_load_rd h hu hd hi]
  exact hK _ _ hk

theorem run_store_row {w : World} {ty : TypeId} {b o n : Nat} {f g : Nat → Value} (h : Row w b o n f) (hi : (P.info? ty).map (·.size) = some n) (h1 : ∀ i, i < n → (g i).oneCell' = true) :
    (storeVar ty ⟨b, o, none⟩ (av n g)).run P w = .ok () (w.setCells b o ((List.range n).map g)) := by
  have hst := run_storeCells_cells (P := P) b o ((List.range n).map g) 0 w (fun j hj => by rw [Nat.add_zero, h.cell j (by simpa using hj)]; rfl) (fun j hj => by rw [Nat.add_zero]; exact h.free j (by simpa using hj)) (fun v hv => by
    obtain ⟨i, hi, rfl⟩ := List.mem_map.1 hv
    exact h1 i (by simpa using hi))
  cases hq : P.info? ty with
  | none => simp [hq] at hi
  | some i =>
    have hs : i.size = n := by simpa [hq] using hi
    simp [storeVar, sizeOf, typeInfo, hq, Value.cells, hs, bc, hst]
theorem wpList_store_row' {ops : Array Oper} {rest : List Oper} {o : Oper} {a : Act} {w : World} {Q : Exit → Act → World → Prop} (hgd : o.guard = none) (ty : TypeId) (x y : Operand) (ho : o.op = .store ty x y)
    {b off n : Nat} {f g : Nat → Value} (hx : a.eval x = .pointer (some ⟨b, off, none⟩)) (hy : a.eval y = av n g) (h : Row w b off n f) (hi : (P.info? ty).map (·.size) = some n) (h1 : ∀ i, i < n → (g i).oneCell' = true)
    (hk : wpList P ops Q rest (a.put o.dst undef) (w.setCells b off ((List.range n).map g))) : wpList P ops Q (o :: rest) a w := by
  refine wpList_plain hgd fun K hK => ?_
  unfold Oper.wp execOp
  simp only [ho, hx, hy, Instr.storeAt, Instr.sureAddr, Sem.run_bind, Sem.run_pure, Result.andThen_ok, run_store_row h hi h1]
  exact hK _ _ hk

/-- What a whole store leaves. -/
theorem Row.stored {w : World} {b o n : Nat} {f g : Nat → Value} (h : Row w b o n f) : Row (w.setCells b o ((List.range n).map g)) b o n g :=
  (h.setCells _ (by simp)).congr fun i hi => by simp [hi]

theorem results_cell_rd {fn : Func} {p : Tmp} {ty : TypeId} (h : fn.results = #[.cell p ty]) {tmps : Array Value} {w : World} {b n : Nat} {f : Nat → Value} {d : TypeDesc} (hp : tmps.getD p undef = .pointer (some ⟨b, 0, none⟩)) (hr : Rd w b 0 n f)
    (hu : P.underlying ty = some d) (hd : (match d with | .struct _ | .array _ _ => true | _ => false) = true) (hi : (P.info? ty).map (·.size) = some n) : (results fn tmps).run P w = .ok (av n f) w := by
  have hp' : tmps[p]?.getD undef = .pointer (some ⟨b, 0, none⟩) := by simpa using hp
  simp [results, h, hp', asAddr, run_load_rd hr hu hd hi]
theorem results_cell_slot {fn : Func} {p s : Tmp} {ty : TypeId} (h : fn.results = #[.cell p ty, .tmp s]) {tmps : Array Value} {w : World} {b n : Nat} {f : Nat → Value} {d : TypeDesc} (hp : tmps.getD p undef = .pointer (some ⟨b, 0, none⟩)) (hr : Rd w b 0 n f)
    (hu : P.underlying ty = some d) (hd : (match d with | .struct _ | .array _ _ => true | _ => false) = true) (hi : (P.info? ty).map (·.size) = some n) : (results fn tmps).run P w = .ok (.tuple #[av n f, tmps.getD s undef]) w := by
  have hp' : tmps[p]?.getD undef = .pointer (some ⟨b, 0, none⟩) := by simpa using hp
  simp [results, h, hp', asAddr, run_load_rd hr hu hd hi, Sem.run_bind]
end
end Go.Proofs.YtgelingkifafeaaGreatDoor

/- The cells of elements of z cells each, told by the index. -/
namespace Go.Proofs.YtgelingkifafeaaGreatDoor
open Go.RowKit Go.Proofs

/-- The cells of elements of z, one behind the other. -/
def elz (z : Nat) (f : Nat → Nat → Value) : Nat → Value := fun i => f (i / z) (i % z)
theorem elz_at {z : Nat} (f : Nat → Nat → Value) (k j : Nat) (hj : j < z) : elz z f (k * z + j) = f k j := by
  unfold elz
  rw [Nat.mul_comm k z, Nat.mul_add_div (by omega), Nat.div_eq_of_lt hj, Nat.mul_add_mod, Nat.mod_eq_of_lt hj, Nat.add_zero]
theorem mul_add_lt {k n z j : Nat} (hk : k < n) (hj : j < z) : k * z + j < n * z := by
  have : (k + 1) * z ≤ n * z := Nat.mul_le_mul_right _ hk
  rw [Nat.add_mul] at this; omega
theorem addr_add (b o j : Nat) : (⟨b, o, none⟩ : Addr).add j = ⟨b, o + j, none⟩ := by unfold Addr.add; split <;> simp_all
theorem cell_new (w : World) (c : Array Value) (t j : Nat) : (w.alloc (.cells c t)).cell? ⟨w.heap.size, j, none⟩ = c[j]? := by
  unfold World.cell?; rw [Deep.blk_alloc_new]; simp
end Go.Proofs.YtgelingkifafeaaGreatDoor
