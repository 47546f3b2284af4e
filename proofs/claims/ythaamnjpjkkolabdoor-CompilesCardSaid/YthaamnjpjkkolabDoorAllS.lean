import Derived.Test.YthaamnjpjkkolabDoorAll
/- The shards of a set, gone through: a round knows that its shard is one. -/
namespace Go.Proofs.YthaamnjpjkkolabDoor
open Go.RowKit Go.Proofs Lin Go.Shelf
set_option maxRecDepth 100000
set_option linter.unusedVariables false

attribute [local go_sem] Oper.semAt_some

set_option maxHeartbeats 1000000 in
/-- 'for i := range n { if s.Has(i) && !yield(i) { return } }': for every body that keeps what lay below n₀. -/
theorem all1_inS (F : Fence) (n : Nat) (hF : F.fn 73) (hH : F.fn 74) (hro : F.round = none) (hn : 1 ≤ n) (l bn bx : Nat) (N x : Nat) (hx : x < 2 ^ 64) (hN : N < 64) (Kp : World → World → Prop) (hkc : ∀ A B, Kp A B → A.cell? ⟨bx, 0, none⟩ = some (U x) → B.cell? ⟨bx, 0, none⟩ = some (U x)) (J Jx : List Nat → World → Prop)
    (hY : ∀ pre i W, i < N → x.testBit i = true → J pre W → pre.length < (sel N x.testBit).length → YieldAt F (n - 1) Tryd.prog l #[I (i : Nat)] W fun e W' =>
      (e = .returned (.bool true) ∧ J (pre ++ [i]) W' ∧ Kp W W') ∨ (e = .returned (.bool false) ∧ Jx (pre ++ [i]) W'))
    (W : World) (hcn : W.cell? ⟨bn, 0, none⟩ = some (I N)) (hcx : W.cell? ⟨bx, 0, none⟩ = some (U x)) (h0 : J [] W) :
    CallsIn F n Tryd.prog 73 #[.func (.yield l) #[] #[], .pointer (some ⟨bn, 0, none⟩), .pointer (some ⟨bx, 0, none⟩)] W fun e W' => (∃ v, e = .returned v) ∧
      ((∃ ys, ys = sel N x.testBit ∧ J ys W') ∨ (∃ pre, pre <+: sel N x.testBit ∧ Jx pre W')) := by
  refine callsIn_of_wp Tryd.func73 rfl hF ?_ hro
  simp only [Tryd.ntmps73, List.size_toArray, List.length_cons, List.length_nil, Nat.reduceAdd, Nat.reduceSub, Array.replicate_succ, Array.replicate_zero, List.push_toArray, List.append_toArray, List.nil_append, List.cons_append]
  gi_wp2
  gi_loopw [6] (fun p wr => ∃ k : Nat, k ≤ N ∧ p = I k ∧ J (sel k x.testBit) wr ∧ wr.cell? ⟨bx, 0, none⟩ = some (U x))
    (fun p _ => N - (intOf p).toNat)
  case atStart => exact ⟨0, by omega, rfl, h0, hcx⟩
  case round =>
    obtain ⟨k, hk, rfl, hJ, hcx'⟩ := hrel
    by_cases hlt : k < N
    · have e1 := sel_succ k x.testBit
      by_cases hb : x.testBit k = true
      · have hlen := sel_hit hlt hb
        rw [if_pos hb] at e1
        obtain ⟨fn, tmps, assign, body, hy, hR⟩ := hY (sel k x.testBit) k wr hlt hb hJ hlen
        gi_wp2_with (gi_at_call 74; refine (has_in F (n - 1) hH hro x k hx (by omega) _).mono ?_; rintro e w' ⟨rfl, rfl⟩; rw [hb])
        refine hR.mono ?_
        rintro e W3 (⟨rfl, hJ3, hk3⟩ | ⟨rfl, hJx3⟩)
        · have hcx3 : W3.cell? ⟨bx, 0, none⟩ = some (U x) := hkc _ _ hk3 hcx'
          gi_wp2
          go_roundw
          case rel => exact ⟨k + 1, by omega, by go_num, by rw [e1]; exact hJ3, hcx3⟩
          case measure => simp [intOf]; omega
        · gi_wp2
          refine bodyPost_ret (results_none rfl _ _ _) rfl ?_
          refine ⟨⟨_, rfl⟩, .inr ⟨sel k x.testBit ++ [k], ?_, hJx3⟩⟩
          rw [← e1]
          exact sel_prefix (by omega)
      · have hb' : x.testBit k = false := by simpa using hb
        rw [if_neg hb] at e1
        gi_wp2_with (gi_at_call 74; refine (has_in F (n - 1) hH hro x k hx (by omega) _).mono ?_; rintro e w' ⟨rfl, rfl⟩; rw [hb'])
        refine ⟨(fun f hf => by cases hf), ?_⟩
        gi_wp2
        go_roundw
        case rel => exact ⟨k + 1, by omega, by go_num, by rw [e1]; exact hJ, hcx'⟩
        case measure => simp [intOf]; omega
    · obtain rfl : N = k := by omega
      gi_wp2
      go_end0
      exact ⟨⟨_, rfl⟩, .inl ⟨_, rfl, hJ⟩⟩

theorem all_stopsS (F : Fence) (n : Nat) (hF : F.fn 73) (hH : F.fn 74) (hro : F.round = none) (hn : 1 ≤ n) (bn bx : Nat) (N x : Nat) (hx : x < 2 ^ 64) (hN : N < 64) (Kp : World → World → Prop) (hkc : ∀ A B, Kp A B → A.cell? ⟨bx, 0, none⟩ = some (U x) → B.cell? ⟨bx, 0, none⟩ = some (U x)) (w : World) (hbn : bn < w.heap.size) (hbx : bx < w.heap.size)
    (hcn : w.cell? ⟨bn, 0, none⟩ = some (I N)) (hcx : w.cell? ⟨bx, 0, none⟩ = some (U x)) :
    SeqStopsK F n Tryd.prog 73 #[.pointer (some ⟨bn, 0, none⟩), .pointer (some ⟨bx, 0, none⟩)] (fun i : {i : Nat // i < N ∧ x.testBit i = true} => #[I (i.1 : Nat)]) Kp (fun ys => ys.map (·.1) = sel N x.testBit) (fun pre => pre.map (·.1) <+: sel N x.testBit) (sel N x.testBit).length w := fun l J Jx W hW _ _ hY h0 => by
  refine (all1_inS F n hF hH hro hn l bn bx N x hx hN Kp hkc (fun l W => ∃ l', l'.map (·.1) = l ∧ J l' W) (fun l W => ∃ l', l'.map (·.1) = l ∧ Jx l' W) ?_ W ((hW.cell (p := ⟨bn, 0, none⟩) hbn).trans hcn) ((hW.cell (p := ⟨bx, 0, none⟩) hbx).trans hcx) ⟨[], rfl, h0⟩).mono ?_
  · rintro pre i W' hi hib ⟨l', rfl, hJ⟩ hlen
    obtain ⟨fn, tmps, assign, body, hy, hR⟩ := hY l' ⟨i, hi, hib⟩ W' hJ (by simpa using hlen)
    refine ⟨fn, tmps, assign, body, hy, hR.mono ?_⟩
    rintro e W3 (⟨he, hJ3, hk3⟩ | ⟨he, hJx3⟩)
    · exact .inl ⟨he, ⟨_, by simp, hJ3⟩, hk3⟩
    · exact .inr ⟨he, ⟨_, by simp, hJx3⟩⟩
  · rintro e W3 ⟨hv, h⟩
    refine ⟨hv, ?_⟩
    rcases h with ⟨_, rfl, l', hl, hJ⟩ | ⟨_, hp, l', rfl, hJ⟩
    · exact .inl ⟨l', hl, hJ⟩
    · exact .inr ⟨l', hp, hJ⟩

end Go.Proofs.YthaamnjpjkkolabDoor
