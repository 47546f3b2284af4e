import Derived.Test.YtgelingkifafeaaGreatDoorBu11
import Derived.Test.YtgelingkifafeaaGreatDoorBu13
import Derived.RangeFuncBox
import Derived.RangeFuncLeaves
import Derived.RangeFuncCalls
import Derived.Shelf.Abstract
import Derived.OwnWalkIn
import Derived.TacticsInMore
import Derived.LoopNIn
import Derived.LoopIn
import Derived.RangeFuncWrites
import Derived.Sort.EveryDepth
/- The shards of a set, gone through: All; Of. -/
namespace Go.Proofs.YtgelingkifafeaaGreatDoor
open Go.RowKit Go.Proofs Lin Go.Shelf
set_option maxRecDepth 100000
set_option linter.unusedVariables false

attribute [local go_sem] Oper.semAt_some

/-- The places up to n at which p holds. -/
def sel (n : Nat) (p : Nat → Bool) : List Nat := (List.range n).filter p
theorem sel_succ (n : Nat) (p : Nat → Bool) : sel (n + 1) p = if p n then sel n p ++ [n] else sel n p := by
  unfold sel; rw [List.range_succ, List.filter_append]
  by_cases h : p n <;> simp [h]
theorem sel_lt {n : Nat} {p : Nat → Bool} {k : Nat} (h : k ≤ n) : (sel k p).length ≤ (sel n p).length := by
  induction n with
  | zero => rw [show k = 0 by omega]; exact Nat.le_refl _
  | succ n ih =>
    by_cases e : k = n + 1
    · rw [e]; exact Nat.le_refl _
    · have := ih (by omega)
      rw [sel_succ]; split <;> simp <;> omega
theorem sel_hit {n : Nat} {p : Nat → Bool} {k : Nat} (h : k < n) (hp : p k = true) : (sel k p).length < (sel n p).length := by
  have := sel_lt (p := p) (show k + 1 ≤ n from h)
  rw [sel_succ, if_pos hp] at this
  simp at this; omega
theorem sel_len (n : Nat) (p : Nat → Bool) : (sel n p).length ≤ n := by
  have := List.length_filter_le p (List.range n)
  simpa [sel] using this
theorem sel_prefix {n k : Nat} {p : Nat → Bool} (h : k ≤ n) : sel k p <+: sel n p := by
  induction n with
  | zero => rw [show k = 0 by omega]; exact List.prefix_refl _
  | succ n ih =>
    by_cases e : k = n + 1
    · rw [e]; exact List.prefix_refl _
    · have h1 := ih (by omega)
      rw [sel_succ]; split
      · exact h1.trans (List.prefix_append _ _)
      · exact h1
theorem mem_sel {n : Nat} {p : Nat → Bool} {i : Nat} : i ∈ sel n p ↔ i < n ∧ p i = true := by simp [sel]

set_option maxHeartbeats 400000 in
theorem has_in (F : Fence) (n : Nat) (hF : F.fn 80) (hro : F.round = none) (x i : Nat) (hx : x < 2 ^ 64) (hi : i < 64) (w : World) :
    CallsIn F n Tryz.prog 80 #[U x, I i] w fun e w' => e = .returned (.bool (x.testBit i)) ∧ w' = w := by
  have HX := Lib.hid (has_spell x i hx)
  refine callsIn_of_wp Tryz.func80 rfl hF ?_ hro
  simp only [Tryz.ntmps80, List.size_toArray, List.length_cons, List.length_nil, Nat.reduceAdd, Nat.reduceSub, Array.replicate_succ, Array.replicate_zero, List.push_toArray, List.append_toArray, List.nil_append, List.cons_append]
  gi_wp2
  go_ret
  exact ⟨by rw [← HX.out]; rfl, rfl⟩

set_option maxHeartbeats 1000000 in
/-- 'for i := range n { if s.Has(i) && !yield(i) { return } }': for every body that keeps what lay below n₀. -/
theorem all1_in (F : Fence) (n : Nat) (hF : F.fn 86) (hH : F.fn 80) (hro : F.round = none) (hn : 1 ≤ n) (l bn bx : Nat) (N x : Nat) (hx : x < 2 ^ 64) (hN : N < 64) (Kp : World → World → Prop) (hkc : ∀ A B, Kp A B → A.cell? ⟨bx, 0, none⟩ = some (U x) → B.cell? ⟨bx, 0, none⟩ = some (U x)) (J Jx : List Nat → World → Prop)
    (hY : ∀ pre i W, i < N → J pre W → pre.length < (sel N x.testBit).length → YieldAt F (n - 1) Tryz.prog l #[I (i : Nat)] W fun e W' =>
      (e = .returned (.bool true) ∧ J (pre ++ [i]) W' ∧ Kp W W') ∨ (e = .returned (.bool false) ∧ Jx (pre ++ [i]) W'))
    (W : World) (hcn : W.cell? ⟨bn, 0, none⟩ = some (I N)) (hcx : W.cell? ⟨bx, 0, none⟩ = some (U x)) (h0 : J [] W) :
    CallsIn F n Tryz.prog 86 #[.func (.yield l) #[] #[], .pointer (some ⟨bn, 0, none⟩), .pointer (some ⟨bx, 0, none⟩)] W fun e W' => (∃ v, e = .returned v) ∧
      ((∃ ys, ys = sel N x.testBit ∧ J ys W') ∨ (∃ pre, pre <+: sel N x.testBit ∧ Jx pre W')) := by
  refine callsIn_of_wp Tryz.func86 rfl hF ?_ hro
  simp only [Tryz.ntmps86, List.size_toArray, List.length_cons, List.length_nil, Nat.reduceAdd, Nat.reduceSub, Array.replicate_succ, Array.replicate_zero, List.push_toArray, List.append_toArray, List.nil_append, List.cons_append]
  gi_wp2
  gi_loopw [6] (fun p wr => ∃ k : Nat, k ≤ N ∧ p = I k ∧ J (sel k x.testBit) wr ∧ wr.cell? ⟨bx, 0, none⟩ = some (U x))
    (fun p _ => N - (intOf p).toNat)
  case atStart => exact ⟨0, by omega, rfl, h0, hcx⟩
  case round =>
    obtain ⟨k, hk, rfl, hJ, hcx'⟩ := hrel
    by_cases hlt : k < N
    · have e1 := sel_succ k x.testBit
      by_cases hb : x.testBit k = true
      · have hlen := sel_hit hlt hb
        rw [if_pos hb] at e1
        obtain ⟨fn, tmps, assign, body, hy, hR⟩ := hY (sel k x.testBit) k wr hlt hJ hlen
        gi_wp2_with (gi_at_call 80; refine (has_in F (n - 1) hH hro x k hx (by omega) _).mono ?_; rintro e w' ⟨rfl, rfl⟩; rw [hb])
        refine hR.mono ?_
        rintro e W3 (⟨rfl, hJ3, hk3⟩ | ⟨rfl, hJx3⟩)
        · have hcx3 : W3.cell? ⟨bx, 0, none⟩ = some (U x) := hkc _ _ hk3 hcx'
          gi_wp2
          go_roundw
          case rel => exact ⟨k + 1, by omega, by go_num, by rw [e1]; exact hJ3, hcx3⟩
          case measure => simp [intOf]; omega
        · gi_wp2
          refine bodyPost_ret (results_none rfl _ _ _) rfl ?_
          refine ⟨⟨_, rfl⟩, .inr ⟨sel k x.testBit ++ [k], ?_, hJx3⟩⟩
          rw [← e1]
          exact sel_prefix (by omega)
      · have hb' : x.testBit k = false := by simpa using hb
        rw [if_neg hb] at e1
        gi_wp2_with (gi_at_call 80; refine (has_in F (n - 1) hH hro x k hx (by omega) _).mono ?_; rintro e w' ⟨rfl, rfl⟩; rw [hb'])
        refine ⟨(fun f hf => by cases hf), ?_⟩
        gi_wp2
        go_roundw
        case rel => exact ⟨k + 1, by omega, by go_num, by rw [e1]; exact hJ, hcx'⟩
        case measure => simp [intOf]; omega
    · obtain rfl : N = k := by omega
      gi_wp2
      go_end0
      exact ⟨⟨_, rfl⟩, .inl ⟨_, rfl, hJ⟩⟩

set_option maxHeartbeats 400000 in
theorem all_in (F : Fence) (n : Nat) (hF : F.fn 63) (hro : F.round = none) (x N : Nat) (w : World) :
    CallsIn F n Tryz.prog 63 #[U x, I N] w fun e w' => e = .returned (.func (.func 86) #[] #[.pointer (some ⟨w.heap.size + 1, 0, none⟩), .pointer (some ⟨w.heap.size, 0, none⟩)]) ∧
      w' = (w.alloc (.cells #[U x] 84)).alloc (.cells #[I N] 3) := by
  refine callsIn_of_wp Tryz.func63 rfl hF ?_ hro
  simp only [Tryz.ntmps63, List.size_toArray, List.length_cons, List.length_nil, Nat.reduceAdd, Nat.reduceSub, Array.replicate_succ, Array.replicate_zero, List.push_toArray, List.append_toArray, List.nil_append, List.cons_append]
  gi_wp2
  go_ret
  exact ⟨rfl, rfl⟩

theorem all_stops (F : Fence) (n : Nat) (hF : F.fn 86) (hH : F.fn 80) (hro : F.round = none) (hn : 1 ≤ n) (bn bx : Nat) (N x : Nat) (hx : x < 2 ^ 64) (hN : N < 64) (Kp : World → World → Prop) (hkc : ∀ A B, Kp A B → A.cell? ⟨bx, 0, none⟩ = some (U x) → B.cell? ⟨bx, 0, none⟩ = some (U x)) (w : World) (hbn : bn < w.heap.size) (hbx : bx < w.heap.size)
    (hcn : w.cell? ⟨bn, 0, none⟩ = some (I N)) (hcx : w.cell? ⟨bx, 0, none⟩ = some (U x)) :
    SeqStopsK F n Tryz.prog 86 #[.pointer (some ⟨bn, 0, none⟩), .pointer (some ⟨bx, 0, none⟩)] (fun i : {i : Nat // i < N} => #[I (i.1 : Nat)]) Kp (fun ys => ys.map (·.1) = sel N x.testBit) (fun pre => pre.map (·.1) <+: sel N x.testBit) (sel N x.testBit).length w := fun l J Jx W hW _ _ hY h0 => by
  refine (all1_in F n hF hH hro hn l bn bx N x hx hN Kp hkc (fun l W => ∃ l', l'.map (·.1) = l ∧ J l' W) (fun l W => ∃ l', l'.map (·.1) = l ∧ Jx l' W) ?_ W ((hW.cell (p := ⟨bn, 0, none⟩) hbn).trans hcn) ((hW.cell (p := ⟨bx, 0, none⟩) hbx).trans hcx) ⟨[], rfl, h0⟩).mono ?_
  · rintro pre i W' hi ⟨l', rfl, hJ⟩ hlen
    obtain ⟨fn, tmps, assign, body, hy, hR⟩ := hY l' ⟨i, hi⟩ W' hJ (by simpa using hlen)
    refine ⟨fn, tmps, assign, body, hy, hR.mono ?_⟩
    rintro e W3 (⟨he, hJ3, hk3⟩ | ⟨he, hJx3⟩)
    · exact .inl ⟨he, ⟨_, by simp, hJ3⟩, hk3⟩
    · exact .inr ⟨he, ⟨_, by simp, hJx3⟩⟩
  · rintro e W3 ⟨hv, h⟩
    refine ⟨hv, ?_⟩
    rcases h with ⟨_, rfl, l', hl, hJ⟩ | ⟨_, hp, l', rfl, hJ⟩
    · exact .inl ⟨l', hl, hJ⟩
    · exact .inr ⟨l', hp, hJ⟩

/-- What a body keeps: all below n₀; the block of the set's box. -/
def KpX (n₀ bx : Nat) (A B : World) : Prop := Below n₀ A B ∧ ∀ o, A.heap[bx]? = some o → B.heap[bx]? = some o
theorem KpX.t {n₀ bx : Nat} {A B C : World} (h : KpX n₀ bx A B) (k : KpX n₀ bx B C) : KpX n₀ bx A C := ⟨h.1.trans k.1, fun o ho => k.2 o (h.2 o ho)⟩
theorem KpX.b {n₀ bx : Nat} {w : World} (hn : n₀ ≤ w.heap.size) (hx : bx < w.heap.size) (W : World) (l : Nat) (o o' : Obj) (hl : w.heap.size ≤ l) (h : W.heap[l]? = some o) (h1 : o.isCells = false) (h2 : o.isWalk = false) : KpX n₀ bx W (W.putObj l o') :=
  ⟨belowK_b hn W l o o' hl h h1 h2, fun q hq => by rw [World.putObj_heap_other (by omega)]; exact hq⟩
theorem KpX.cell {n₀ bx : Nat} {A B : World} (h : KpX n₀ bx A B) {v : Value} (hc : A.cell? ⟨bx, 0, none⟩ = some v) : B.cell? ⟨bx, 0, none⟩ = some v := by
  have hlt : bx < A.heap.size := World.block_lt_of_cell? _ _ hc
  have h1 : A.heap[bx]? = some A.heap[bx] := Array.getElem?_eq_getElem hlt
  rw [← hc]
  exact World.cell?_of_block ((h.2 _ h1).trans h1.symm)
end Go.Proofs.YtgelingkifafeaaGreatDoor
