import Derived.Test.YtgelingkifafeaaGreatDoorBu11
import Derived.Test.YtgelingkifafeaaGreatDoorBu25
/- few: params of raw numbers, always right ones. -/
namespace Go.Proofs.YtgelingkifafeaaGreatDoor
open Go Go.RowKit Go.Proofs Lin
set_option maxRecDepth 100000
set_option linter.unusedVariables false

theorem pickN (d : Int) (N : Nat) (h1 : 1 ≤ N) (h2 : N ≤ 100000) : ∃ k : Nat, k < N ∧ wrap64 ((IntKind.u64.wrap d).tmod (N : Int)) = (k : Int) := by
  have e : IntKind.u64.wrap d = d % 18446744073709551616 := rfl
  have h0 : 0 ≤ IntKind.u64.wrap d := by rw [e]; omega
  rw [Int.tmod_eq_emod_of_nonneg h0]
  have ha := Int.emod_nonneg (IntKind.u64.wrap d) (b := (N : Int)) (by omega)
  have hb := Int.emod_lt_of_pos (IntKind.u64.wrap d) (b := (N : Int)) (by omega)
  exact ⟨((IntKind.u64.wrap d) % (N : Int)).toNat, by omega, by rw [IntWalk.wrap64_in _ ⟨by omega, by omega⟩]; omega⟩

set_option maxHeartbeats 1000000 in
theorem few_any (a b c : Int) (w : World) : Calls Tryz.prog 12 #[I a, I b, I c] w fun e w' => (∃ D L G : Nat, e = .returned (PV D L G) ∧ Right D L G ∧ D ≤ 6 ∧ L ≤ 3 ∧ G ≤ 3) ∧ Below w.heap.size w w' := by
  obtain ⟨x, hx, ex⟩ := pickN a 6 (by omega) (by omega)
  obtain ⟨y, hy, ey⟩ := pickN b 3 (by omega) (by omega)
  obtain ⟨z, hz, ez⟩ := pickN c 4 (by omega) (by omega)
  have HX := Lib.hid (show wrap64 ((IntKind.u64.wrap a).tmod 6) = (x : Int) from ex)
  have HY := Lib.hid (show wrap64 ((IntKind.u64.wrap b).tmod 3) = (y : Int) from ey)
  have HZ := Lib.hid (show wrap64 ((IntKind.u64.wrap c).tmod 4) = (z : Int) from ez)
  clear ex ey ez
  go_enter Tryz.func12, Tryz.ntmps12
  go_upto_region 3 with fail
  have eK : wrap64 (1 + (x : Int)) = ((x + 1 : Nat) : Int) := by rw [IntWalk.wrap64_in _ ⟨by omega, by omega⟩]; omega
  have eL : wrap64 (1 + (y : Int)) = ((y + 1 : Nat) : Int) := by rw [IntWalk.wrap64_in _ ⟨by omega, by omega⟩]; omega
  rw [HX.out, HY.out, eK, eL]
  clear eK eL
  generalize hw1 : w.alloc (.cells #[.int .i64 0, .int .i64 0, .int .i64 0] 23) = w1
  have HB1 := Lib.hid (show Below w.heap.size w w1 from hw1 ▸ (Below.refl _ w).alloc (Nat.le_refl _) _)
  have HR1 := Lib.hid (show Row w1 w.heap.size 0 3 (fun _ => I 0) from hw1 ▸ (Row.lit w #[I 0, I 0, I 0] 23).congr fun i hi => by match i, hi with | 0, _ | 1, _ | 2, _ => rfl)
  clear hw1
  obtain ⟨K, hK⟩ : ∃ K, K = x + 1 := ⟨_, rfl⟩
  obtain ⟨M, hM⟩ : ∃ M, M = y + 1 := ⟨_, rfl⟩
  rw [← hK, ← hM]
  have hK1 : 1 ≤ K := by omega
  have hK6 : K ≤ 6 := by omega
  have hM1 : 1 ≤ M := by omega
  have hM3 : M ≤ 3 := by omega
  clear hK hM HX HY
  go_loopg [8] M (fun g i wr => ∃ l : Nat, g = l ∧ i = I l ∧ 1 ≤ l ∧ l ≤ 3 ∧ wr = w1)
  case atStart => exact ⟨M, rfl, rfl, hM1, hM3, rfl⟩
  case round =>
    obtain ⟨l, hgl, rfl, h1, h3, rfl⟩ := hrel
    have hl0 : ¬ (l : Int) = 0 := by omega
    have e1 : (K : Int).tmod (l : Int) = ((K % l : Nat) : Int) := by rw [Int.tmod_eq_emod_of_nonneg (by omega)]; rfl
    by_cases hd : K % l = 0
    · have hm : ((K : Int).tmod (l : Int) != 0) = false := by rw [e1, hd]; rfl
      have c0 : wr.cell? ⟨w.heap.size, 0, none⟩ = some (I 0) := HR1.out.cell 0 (by omega)
      have c1 : wr.cell? ⟨w.heap.size, 1, none⟩ = some (I 0) := HR1.out.cell 1 (by omega)
      have c2 : wr.cell? ⟨w.heap.size, 2, none⟩ = some (I 0) := HR1.out.cell 2 (by omega)
      have f0 : wr.frozen? ⟨w.heap.size, 0, none⟩ = false := HR1.out.free 0 (by omega)
      have f1 : wr.frozen? ⟨w.heap.size, 1, none⟩ = false := HR1.out.free 1 (by omega)
      have f2 : wr.frozen? ⟨w.heap.size, 2, none⟩ = false := HR1.out.free 2 (by omega)
      clear e1
      go_wp2_with fail
      rw [HZ.out]
      have hu : Upd (· = w.heap.size) wr (((wr.setCell ⟨w.heap.size, 0, none⟩ (I K)).setCell ⟨w.heap.size, 1, none⟩ (I l)).setCell ⟨w.heap.size, 2, none⟩ (I z)) := (((Upd.refl (· = w.heap.size) wr).at1 0 _).trans ((Upd.refl _ _).at1 1 _) (fun _ h _ => h)).trans ((Upd.refl _ _).at1 2 _) (fun _ h _ => h)
      have hB := Below.upd HB1.out hu (fun b e => Nat.le_of_eq e.symm) HB1.out.size
      have hr := ((HR1.out.set (i := 0) (by omega) (I K)).set (i := 1) (by omega) (I l)).set (i := 2) (by omega) (I z)
      simp only [Nat.zero_add] at hr
      generalize ((wr.setCell ⟨w.heap.size, 0, none⟩ (.int .i64 K)).setCell ⟨w.heap.size, 1, none⟩ (.int .i64 l)).setCell ⟨w.heap.size, 2, none⟩ (.int .i64 z) = W at *
      have g0 : W.cell? ⟨w.heap.size, 0, none⟩ = some (I K) := hr.cell 0 (by omega)
      have g1 : W.cell? ⟨w.heap.size, 1, none⟩ = some (I l) := hr.cell 1 (by omega)
      have g2 : W.cell? ⟨w.heap.size, 2, none⟩ = some (I z) := hr.cell 2 (by omega)
      refine bodyPost_ret (v := PV K l z) (by simp [results, Tryz.results12, go_sem, g0, g1, g2]) rfl ?_
      exact ⟨⟨K, l, z, rfl, ⟨by omega, by omega, by omega, by omega, by omega, hd, by omega⟩, hK6, h3, by omega⟩, hB⟩
    · have hm : ((K : Int).tmod (l : Int) != 0) = true := by
        rw [e1]; simp; omega
      clear e1
      go_wp2_with fail
      go_roundg (l - 1)
      case measure => omega
      case rel =>
        have hl1 : l ≠ 1 := fun e => hd (by subst e; exact Nat.mod_one K)
        exact ⟨l - 1, rfl, by go_num, by omega, by omega, rfl⟩
end Go.Proofs.YtgelingkifafeaaGreatDoor
