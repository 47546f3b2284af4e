import Derived.Test.YthaamnjpjkkolabDoorMaStep
import Derived.Test.YthaamnjpjkkolabDoorMaMat
import Derived.Test.YthaamnjpjkkolabDoorMaHeld
/- A program's run, in plain words; registers and what is put out, in memory. -/
namespace Go.Proofs.YthaamnjpjkkolabDoor
open Go.RowKit Go.Proofs
set_option maxRecDepth 100000
set_option linter.unusedVariables false

/-- What a step makes of the registers. -/
def stepR (sh : Nat → Nat → UInt8) (s : Stp) (M : Nat → Nat → UInt8) : Nat → Nat → UInt8 :=
  if s.k.toNat = 0 then fun r => if r = s.a.toNat then sh s.b.toNat else M r
  else if s.k.toNat = 1 then fun r => if r = s.a.toNat then (fun t => M s.a.toNat t ^^^ Gf.mul s.c (M s.b.toNat t)) else M r
  else M
def regsAt (sh : Nat → Nat → UInt8) (S : Nat → Stp) : Nat → Nat → Nat → UInt8
  | 0 => fun _ _ => 0
  | k + 1 => stepR sh (S k) (regsAt sh S k)
/-- What k steps put out. -/
def outL (sh : Nat → Nat → UInt8) (S : Nat → Stp) : Nat → List (Int × (Nat → UInt8))
  | 0 => []
  | k + 1 => if (S k).k.toNat = 2 then outL sh S k ++ [((S k).b, regsAt sh S k (S k).a.toNat)] else outL sh S k
theorem outL_len (sh : Nat → Nat → UInt8) (S : Nat → Stp) : ∀ k, (outL sh S k).length ≤ k
  | 0 => Nat.le_refl _
  | k + 1 => by
    have := outL_len sh S k
    unfold outL; split
    · rw [List.length_append, List.length_singleton]; omega
    · omega

abbrev Od : Int × (Nat → UInt8) := (0, fun _ => 0)
/-- The cells of what is put out. -/
def outF (γ : Nat → Nat) (N : Nat) (L : List (Int × (Nat → UInt8))) (i j : Nat) : Value := if j = 0 then I (L.getD i Od).1 else .slice (some ⟨γ i, 0, none⟩) N N

/-- What was put out, in memory. -/
structure Outs (base te : Nat) (w : World) (v : Value) (L : List (Int × (Nat → UInt8))) (N : Nat) (γ : Nat → Nat) : Prop where
  vz : Vz w base te 2 v L.length (outF γ N L)
  row : ∀ j, j < L.length → Row w (γ j) 0 N (bs (L.getD j Od).2)
  kd : ∀ j, j < L.length → Kd w (γ j) 5
  own : ∀ j, j < L.length → base ≤ γ j
  up : ∀ i j, i < j → j < L.length → γ i < γ j

namespace Outs
variable {base te N : Nat} {w w1 w3 : World} {v v3 : Value} {L : List (Int × (Nat → UInt8))} {γ : Nat → Nat}
theorem start (base te : Nat) (w : World) (N : Nat) (γ : Nat → Nat) : Outs base te w (.slice none 0 0) [] N γ :=
  ⟨Vz.nil _ _ _ _ _, fun j hj => absurd hj (by simp), fun j hj => absurd hj (by simp), fun j hj => absurd hj (by simp), fun i j _ hj => absurd hj (by simp)⟩
theorem upd {G : Nat → Prop} (h : Outs base te w v L N γ) (hu : Upd G w w1) (h1 : ∀ j, j < L.length → ¬ G (γ j)) (h2 : ∀ k, v.ownBlock = some k → ¬ G k) : Outs base te w1 v L N γ :=
  ⟨h.vz.kept hu h2, fun j hj => (h.row j hj).upd hu fun _ => h1 j hj, fun j hj => (h.kd j hj).upd hu (h1 j hj), h.own, h.up⟩
theorem later (h : Outs base te w v L N γ) (hb : Below w.heap.size w w1) : Outs base te w1 v L N γ := h.upd (Upd.of_below hb) (fun _ _ => id) (fun _ _ => id)
theorem next (h : Outs base te w v L N γ) (hte : te ≠ 5) {ν : Nat} {b : Int} {x : Nat → UInt8} (hb : Below w.heap.size w w1) (hν : w.heap.size ≤ ν) (hB : base ≤ w.heap.size) (hr : Row w1 ν 0 N (bs x)) (hk : Kd w1 ν 5)
    (hv : Vz w3 base te 2 v3 (L.length + 1) (fun i j => if i < L.length then outF γ N L i j else (#[I b, .slice (some ⟨ν, 0, none⟩) N N] : Array Value).getD j (.bool false))) (hu : Upd (fun b => some b = v.ownBlock) w1 w3) :
    Outs base te w3 v3 (L ++ [(b, x)]) N (fun j => if j < L.length then γ j else ν) := by
  have hl : (L ++ [(b, x)]).length = L.length + 1 := by simp
  have hne : ∀ k, Kd w1 k 5 → ¬ some k = v.ownBlock := fun k hk e => (h.vz.later hb).block_ne hk (fun e => hte e.symm) k e.symm rfl
  refine ⟨?_, fun j hj => ?_, fun j hj => ?_, fun j hj => ?_, fun i j hij hj => ?_⟩
  · rw [hl]
    refine hv.congr fun i hi j hj => ?_
    by_cases e : i < L.length
    · rw [if_pos e]; unfold outF; simp only [if_pos e, List.getD_eq_getElem?_getD, List.getElem?_append_left e]
    · obtain rfl : i = L.length := by omega
      rw [if_neg e]; unfold outF; simp only [if_neg e]
      rcases (show j = 0 ∨ j = 1 by omega) with rfl | rfl
      · simp
      · simp
  · rw [hl] at hj
    by_cases e : j < L.length
    · simp only [if_pos e, List.getD_eq_getElem?_getD, List.getElem?_append_left e]
      have := ((h.row j e).later hb).upd hu fun _ => hne _ ((h.kd j e).later hb)
      simpa [List.getD_eq_getElem?_getD] using this
    · obtain rfl : j = L.length := by omega
      simp only [if_neg e]
      have := hr.upd hu fun _ => hne _ hk
      simpa using this
  · rw [hl] at hj
    by_cases e : j < L.length
    · simp only [if_pos e]; exact ((h.kd j e).later hb).upd hu (hne _ ((h.kd j e).later hb))
    · simp only [if_neg e]; exact hk.upd hu (hne _ hk)
  · rw [hl] at hj
    by_cases e : j < L.length
    · simp only [if_pos e]; exact h.own j e
    · simp only [if_neg e]; omega
  · rw [hl] at hj
    by_cases e : j < L.length
    · simp only [if_pos e, if_pos (show i < L.length by omega)]; exact h.up i j hij e
    · simp only [if_neg e, if_pos (show i < L.length by omega)]
      have := (h.kd i (by omega)).lt; omega
theorem base_le {base' : Nat} (h : Outs base te w v L N γ) (hb : base' ≤ base) : Outs base' te w v L N γ :=
  ⟨⟨h.vz.1, by
    rcases h.vz.2 with hn | ⟨g, cap, cur, rfl, hg, rest⟩
    · exact .inl hn
    · exact .inr ⟨g, cap, cur, rfl, Nat.le_trans hb hg, rest⟩⟩, h.row, h.kd, fun j hj => Nat.le_trans hb (h.own j hj), h.up⟩
end Outs

/-- 'append(s, x)', the block of x told by its number. -/
theorem wpList_append_at {P : Program} {w : World} {ops : Array Oper} {rest : List Oper} {o : Oper} {a : Act} {Q : Exit → Act → World → Prop} (hgd : o.guard = none) (s x : Operand) (t : TypeId)
    (ho : o.op = .call { callee := .builtin .append, args := #[s, x], argTypes := #[t, t] })
    (base : Nat) (e : TypeId) (z : Value) (bytes : Nat) (ht : P.underlying t = some (.slice e)) (hinfo : (P.info? e).map (fun i => (i.zero, i.size, i.bytes)) = some (some z, 1, bytes)) (hz1 : z.cells = #[z])
    (v : Value) (n : Nat) (f : Nat → Value) (hs : a.eval s = v) (hown : Vc w base e v n f) (u : Value) (tu : TypeId) (g : Nat) (hg : g = w.heap.size) (hx : a.eval x = .slice (some ⟨g, 0, none⟩) 1 1) (h1 : u.oneCell' = true)
    (h63 : n + 1 ≤ 1099511627776) (hby : bytes ≤ 64) (hbase : base ≤ w.heap.size)
    (h : ∀ v' w', Vc w' base e v' (n + 1) (fun i => if i < n then f i else u) → Upd (fun b => some b = v.ownBlock) w w' → wpList P ops Q rest (a.put o.dst v') w') : wpList P ops Q (o :: rest) a (w.alloc (.cells #[u] tu)) := by
  subst hg
  exact wpList_append_one hgd s x t ho base e z bytes ht hinfo hz1 v n f hs hown u tu hx h1 h63 hby hbase h

theorem Four.upd {G : Nat → Prop} {w w' : World} {b : Nat} {x y z u : Value} (h : Four w b x y z u) (hu : Upd G w w') (hg : ¬ G b) : Four w' b x y z u := by
  have e := hu.block b (World.block_lt_of_cell? _ _ h.c0) hg
  exact ⟨(World.cell?_of_block (a := ⟨b, 0, none⟩) e).trans h.c0, (World.cell?_of_block (a := ⟨b, 1, none⟩) e).trans h.c1, (World.cell?_of_block (a := ⟨b, 2, none⟩) e).trans h.c2, (World.cell?_of_block (a := ⟨b, 3, none⟩) e).trans h.c3⟩

theorem Mx.upd2 {G : Nat → Prop} {w w' : World} {g n W : Nat} {β : Nat → Nat} {M : Nat → Nat → UInt8} (h : Mx w g n W β M) (hu : Upd G w w') (h1 : ∀ i, i < n → ¬ G (β i)) (h2 : ¬ G g) : Mx w' g n W β M :=
  ⟨h.outer.upd hu fun _ => h2, fun i hi => (h.rows i hi).upd hu fun _ => h1 i hi, fun i hi => (h.kd i hi).upd hu (h1 i hi), h.inj, h.gk.upd hu h2⟩
theorem Mx.later' {w w' : World} {g n W : Nat} {β : Nat → Nat} {M : Nat → Nat → UInt8} (h : Mx w g n W β M) (hb : Below w.heap.size w w') : Mx w' g n W β M := h.upd2 (Upd.of_below hb) (fun _ _ => id) id
/-- A row is turned. -/
theorem Mx.turn {w w' : World} {g n W : Nat} {β : Nat → Nat} {M : Nat → Nat → UInt8} (h : Mx w g n W β M) {i : Nat} (hi : i < n) {x : Nat → UInt8} (hu : Upd (· = β i) w w') (hk : KdKept w w') (hr : Row w' (β i) 0 W (bs x)) :
    Mx w' g n W β (fun r => if r = i then x else M r) := by
  refine ⟨h.outer.upd hu fun _ e => h.ne hi e.symm, fun r hr' => ?_, fun r hr' => hk _ _ (h.kd r hr'), h.inj, hk _ _ h.gk⟩
  by_cases e : r = i
  · subst e; simp only [if_true]; exact hr
  · simp only [if_neg e]; exact (h.rows r hr').upd hu fun _ e' => e (h.inj r i hr' hi e')
theorem Mx.congr {w : World} {g n W : Nat} {β : Nat → Nat} {M N : Nat → Nat → UInt8} (h : Mx w g n W β M) (e : ∀ i, i < n → ∀ t, t < W → M i t = N i t) : Mx w g n W β N :=
  ⟨h.outer, fun i hi => (h.rows i hi).congr fun t ht => by simp [bs, e i hi t ht], h.kd, h.inj, h.gk⟩

/-- A new row with room for N. -/
theorem own_made (w : World) (base N : Nat) (hb : base ≤ w.heap.size) (hN : N ≤ 1000000) :
    (w.alloc (.cells (madeCells #[.int .u8 0] N) 5)).drew.ownsRow base 5 1 (.slice (some ⟨w.heap.size, 0, none⟩) 0 N) 0 [] := by
  obtain ⟨cs, h1, h2⟩ : ∃ cs : Array Value, madeCells #[.int .u8 0] N = cs ∧ cs.size = N := ⟨_, rfl, by simp [madeCells]⟩
  exact ⟨rfl, .inr ⟨w.heap.size, N, _, rfl, hb, Deep.blk_alloc_new _ _, Nat.zero_le _, by unfold maxLen; omega, by rw [h1, h2, Nat.mul_one], by simp⟩⟩
/-- A row that was put into one's own room. -/
theorem put_row {w' : World} {base ν N : Nat} {X : Nat → UInt8} (h : w'.ownsRow base 5 1 (.slice (some ⟨ν, 0, none⟩) (0 + N) N) (0 + N) ([] ++ (List.range N).map (bs X))) : Row w' ν 0 N (bs X) ∧ Kd w' ν 5 := by
  rw [Nat.zero_add, List.nil_append] at h
  obtain ⟨hl, h⟩ := h
  rcases h with ⟨hv, _⟩ | ⟨g, cap, cur, hv, hb, hg, hn, hm, hs, ht⟩
  · cases hv
  · cases hv
    refine ⟨⟨fun i hi => ?_, fun i hi => ?_⟩, cur, hg⟩
    · simp only [World.cell?, hg, Nat.zero_add]
      have : cur.toList[i]? = some (bs X i) := by
        have e2 : (cur.toList.take (N * 1))[i]? = ((List.range N).map (bs X))[i]? := by rw [ht]
        rw [List.getElem?_take, if_pos (by omega)] at e2
        rw [e2]; simp [hi]
      simpa using this
    · simp [World.frozen?, hg]
theorem row_cells {w : World} {b N : Nat} {X : Nat → UInt8} (h : Rd w b 0 N (bs X)) : ∀ j u, ((List.range N).map (bs X))[j]? = some u → w.cell? ((⟨b, 0, none⟩ : Addr).add j) = some u := fun j u hj => by
  by_cases hm : j < N
  · have hadd : (⟨b, 0, none⟩ : Addr).add j = ⟨b, 0 + j, none⟩ := addr_add b 0 j
    rw [hadd, h j hm]
    simpa [hm] using hj
  · simp [hm] at hj

/-- Registers in the making: k of them are there. -/
structure Making (w wr : World) (g R N k : Nat) : Prop where
  below : Below w.heap.size w wr
  gown : w.heap.size ≤ g
  outer : Row wr g 0 R (fun i => if i < k then .slice (some ⟨g + 1 + i, 0, none⟩) N N else .slice none 0 0)
  rows : ∀ i, i < k → Row wr (g + 1 + i) 0 N (bs fun _ => 0)
  kd : ∀ i, i < k → Kd wr (g + 1 + i) 5
  gk : Kd wr g 28
  size : wr.heap.size = g + 1 + k
theorem Making.start {w w1 : World} (hb : Below w.heap.size w w1) (R N : Nat) : Making w (w1.alloc (.cells (madeCells #[.slice none 0 0] R) 28)) w1.heap.size R N 0 :=
  ⟨hb.alloc hb.size _, hb.size, (Row.new w1 (.slice none 0 0) R 28).congr fun i hi => by simp, fun i hi => absurd hi (by omega), fun i hi => absurd hi (by omega), Kd.new _ _ _, by rw [World.size_alloc]⟩
theorem Making.next {w wr : World} {g R N k : Nat} (h : Making w wr g R N k) (hk : k < R) :
    Making w ((wr.alloc (.cells (madeCells #[.int .u8 0] N) 5)).setCell ⟨g, k, none⟩ (.slice (some ⟨wr.heap.size, 0, none⟩) N N)) g R N (k + 1) := by
  have hg : g < wr.heap.size := by rw [h.size]; omega
  have hB : w.heap.size ≤ wr.heap.size := h.below.size
  have hU : Upd (· = g) (wr.alloc (.cells (madeCells #[.int .u8 0] N) 5)) ((wr.alloc (.cells (madeCells #[.int .u8 0] N) 5)).setCell ⟨g, k, none⟩ (.slice (some ⟨wr.heap.size, 0, none⟩) N N)) :=
    (Upd.refl (· = g) _).setCell (a := ⟨g, k, none⟩) (fun _ => rfl) _
  refine ⟨Below.upd (h.below.alloc hB _) hU (fun b e => by have := h.gown; omega) (by rw [World.size_alloc]; omega), h.gown, ?_, fun i hi => ?_, fun i hi => ?_, (h.gk.alloc _).set _ _, by rw [Deep.nblk_setCell, World.size_alloc, h.size]; omega⟩
  · have := ((h.outer.alloc (.cells (madeCells #[.int .u8 0] N) 5)).set hk (.slice (some ⟨wr.heap.size, 0, none⟩) N N))
    rw [Nat.zero_add] at this
    refine this.congr fun i hi => ?_
    by_cases e : i = k
    · subst e; simp [h.size]
    · by_cases e2 : i < k
      · simp [e, e2, show i < k + 1 by omega]
      · simp [e, e2, show ¬ i < k + 1 by omega]
  · by_cases e : i < k
    · exact ((h.rows i e).alloc _).upd hU fun _ e' => by omega
    · obtain rfl : i = k := by omega
      have hn : Row (wr.alloc (.cells (madeCells #[.int .u8 0] N) 5)) (g + 1 + i) 0 N (bs fun _ => 0) := by
        rw [← h.size]; exact (Row.new wr (.int .u8 0) N 5).congr fun _ _ => rfl
      exact hn.upd hU fun _ e' => by omega
  · by_cases e : i < k
    · exact ((h.kd i e).alloc _).upd hU (by omega)
    · obtain rfl : i = k := by omega
      have hn : Kd (wr.alloc (.cells (madeCells #[.int .u8 0] N) 5)) (g + 1 + i) 5 := by rw [← h.size]; exact Kd.new _ _ _
      exact hn.upd hU (by omega)
theorem Making.done {w wr : World} {g R N : Nat} (h : Making w wr g R N R) : Mx wr g R N (fun i => g + 1 + i) (fun _ _ => 0) :=
  ⟨h.outer.congr fun i hi => by simp [hi], h.rows, h.kd, fun i j _ _ e => by simp at e; omega, h.gk⟩
end Go.Proofs.YthaamnjpjkkolabDoor
