import Derived.Test.YthaamnjpjkkolaaReduce
/- The program's Rank. -/
namespace Go.Proofs.Ythaamnjpjkkolaa
open Go.RowKit Go.Proofs Lin
set_option maxRecDepth 100000
set_option linter.unusedVariables false

/-- The longest of the first k rows. -/
def wid (S : Nat → Sl) : Nat → Nat
  | 0 => 0
  | k + 1 => Nat.max (wid S k) (S k).n
theorem wid_le (S : Nat → Sl) {i k : Nat} (h : i < k) : (S i).n ≤ wid S k := by
  induction k with
  | zero => omega
  | succ k ih =>
    simp only [wid]
    by_cases e : i = k
    · subst e; exact Nat.le_max_right _ _
    · exact Nat.le_trans (ih (by omega)) (Nat.le_max_left _ _)

/-- What Rank answers. -/
def rankV (n : Nat) (S : Nat → Sl) : Int := if n ≤ 64 ∧ wid S n ≤ 64 then ((reduce n (fun i => padX (S i)) (wid S n)).2.length : Int) else -1

theorem max_spell (t s : Nat) : (if t < s then (s : Int) else (t : Int)) = ((Nat.max t s : Nat) : Int) := by
  show _ = ((max t s : Nat) : Int)
  split <;> omega

theorem rankV_rows {n : Nat} {S : Nat → Sl} (h : 64 < n) : rankV n S = -1 := by unfold rankV; rw [if_neg (by omega)]
theorem rankV_wide {n : Nat} {S : Nat → Sl} (h : 64 < wid S n) : rankV n S = -1 := by unfold rankV; rw [if_neg (by omega)]
theorem rankV_ok {n : Nat} {S : Nat → Sl} (h : n ≤ 64) (h' : wid S n ≤ 64) : rankV n S = ((reduce n (fun i => padX (S i)) (wid S n)).2.length : Int) := by unfold rankV; rw [if_pos ⟨h, h'⟩]

set_option maxHeartbeats 400000 in
theorem rank_any (a : Option Addr) (b o n c : Nat) (S : Nat → Sl) (w : World) (ha : 0 < n → a = some ⟨b, o, none⟩)
    (hout : Rd w b o n (fun i => (S i).v)) (hok : ∀ i, i < n → (S i).ok w) (hn : n ≤ 1099511627776) :
    Calls Try.prog 28 #[.slice a n c] w fun e w' => e = .returned (I (rankV n S)) ∧ Below w.heap.size w w' := by
  have HO := Lib.hid hout
  have HK := Lib.hid hok
  clear hout hok
  go_enter Try.func28, Try.ntmps28
  go_wp2_with fail
  go_loop [3, 8] (fun m i => ∃ k : Nat, k ≤ n ∧ i = I k ∧ m = I (wid S k)) (fun _ i => n - (intOf i).toNat)
  case atStart => exact ⟨0, by omega, rfl, rfl⟩
  case round =>
    obtain ⟨k, hk, rfl, rfl⟩ := hrel
    by_cases hlt : k < n
    · obtain rfl := ha (by omega)
      have c1 : w.cell? ⟨b, o + k, none⟩ = some (.slice (S k).a (S k).n (S k).c) := HO.out k hlt
      have hw := Lib.hid (show wid S (k + 1) = Nat.max (wid S k) (S k).n from rfl)
      generalize wid S k = t at *
      go_wp2_with fail
      go_round
      case rel => exact ⟨k + 1, by omega, by go_num, by rw [hw.out, max_spell]⟩
      case measure => simp [intOf]; omega
    · obtain rfl : k = n := by omega
      by_cases h1 : k ≤ 64
      · by_cases h2 : wid S k ≤ 64
        · have hclone := Lib.hid (clone_any a b o k c (wid S k) S w ha HO.out HK.out (fun i hi => wid_le S hi) (by omega) (by omega))
          have hfin := Lib.hid (rankV_ok h1 h2)
          generalize wid S k = W at *
          go_wp2_with (go_at_call 34; refine hclone.out.mono ?_; rintro e w1 ⟨rfl, hc⟩; have HC := Lib.hid hc; clear hc)
          refine (reduce_any w.heap.size k W W k (fun i => w.heap.size + 1 + i) (fun i => padX (S i)) _ HC.out.done (by omega) (by omega) (Nat.le_refl _)).mono ?_
          rintro e w2 ⟨v, β, rfl, hr⟩
          obtain ⟨va, vb, vc, rfl, _, _, _, _, _⟩ := hr.piv.shape
          have HR := Lib.hid hr
          clear hr
          go_wp2_with fail
          go_ret
          refine ⟨ret_int hfin.out.symm, ?_⟩
          exact Below.upd HC.out.below HR.out.upd (fun b hb => by rcases hb with rfl | ⟨j, _, rfl⟩ <;> omega) HC.out.below.size
        · go_wp2_with fail
          go_ret
          exact ⟨ret_int (rankV_wide (by omega)).symm, Below.refl _ _⟩
      · go_wp2_with fail
        go_ret
        exact ⟨ret_int (rankV_rows (by omega)).symm, Below.refl _ _⟩

theorem sRank_any (a : Option Addr) (b o n c : Nat) (S : Nat → Sl) (w : World) (ha : 0 < n → a = some ⟨b, o, none⟩)
    (hout : Rd w b o n (fun i => (S i).v)) (hok : ∀ i, i < n → (S i).ok w) (hn : n ≤ 1099511627776) :
    Calls Try.prog 17 #[.slice a n c] w fun e w' => e = .returned (I (rankV n S)) ∧ Below w.heap.size w w' := by
  have hc := Lib.hid (rank_any a b o n c S w ha hout hok hn)
  clear ha hout hok
  go_enter Try.func17, Try.ntmps17
  go_wp2_with (go_at_call 28; refine hc.out.mono ?_; rintro e w1 ⟨rfl, hb⟩)
  go_ret
  exact ⟨rfl, hb⟩
end Go.Proofs.Ythaamnjpjkkolaa
