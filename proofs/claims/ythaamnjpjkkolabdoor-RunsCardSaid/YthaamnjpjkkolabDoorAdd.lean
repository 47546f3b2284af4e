import Derived.Test.YthaamnjpjkkolabDoorBy
/- AddTo, of whatever rows. -/
namespace Go.Proofs.YthaamnjpjkkolabDoor
open Go.RowKit Go.Proofs
set_option maxRecDepth 100000
set_option linter.unusedVariables false

/-- What AddTo leaves: its row turned; blocks that are new. -/
structure Added (w w' : World) (g n : Nat) (y : Nat → UInt8) : Prop where
  upd : Upd (· = g) w w'
  kd : KdKept w w'
  row : Row w' g 0 n (bs y)
theorem Done.added {w w' : World} {g n : Nat} {y : Nat → UInt8} (h : Done w w' g n y) : Added w w' g n y := ⟨h.upd, h.kd, h.row⟩

set_option maxHeartbeats 1000000 in
theorem addTo_long (a : Option Addr) (g n c b o m c' : Nat) (x y : Nat → UInt8) (s : UInt8) (w : World) (hx : Row w g 0 n (bs x)) (ha : 0 < m → a = some ⟨b, o, none⟩) (hy : Rd w b o m (bs y)) (hb : 0 < m → b ≠ g) (hm : m ≤ n) (hn : n ≤ 1000000)
    (h0 : s ≠ 0) (h1 : s ≠ 1) (hs : ¬ m < 100) :
    Calls Tryd.prog 47 #[.slice (some ⟨g, 0, none⟩) n c, .slice a m c', B s] w fun e w' => e = .returned (.tuple #[]) ∧ Added w w' g n (fun j => if j < m then x j ^^^ Gf.mul s (y j) else x j) := by
  have hg : g < w.heap.size := hx.lt (by omega)
  have HX := Lib.hid hx
  have HY := Lib.hid hy
  clear hx hy
  have e0 : ((s.toNat : Int) == 0) = false := byte_ne_lit (n := 0) h0 (by omega)
  have e1 : ((s.toNat : Int) == 1) = false := byte_ne_lit (n := 1) h1 (by omega)
  have hd : decide ((m : Int) < 100) = false := by simp; omega
  obtain rfl := ha (by omega)
  have hbg := hb (by omega)
  have hbw : b < w.heap.size := HY.out.lt (by omega)
  go_enter Tryd.func47, Tryd.ntmps47
  go_wp2_with (go_at_call 63; refine (by_any s _).mono ?_; rintro e w1 ⟨rfl, hb1, ht⟩; have HB1 := Lib.hid hb1; have HT := Lib.hid ht; clear hb1 ht)
  have hws : w.heap.size < w1.heap.size := HT.out.lt (by omega)
  go_loopw [40] (fun i wr => ∃ k : Nat, k ≤ m ∧ i = I k ∧ Doing w1 wr g n k x (fun j => if j < m then x j ^^^ Gf.mul s (y j) else x j)) (fun i _ => m - (intOf i).toNat)
  case atStart => exact ⟨0, by omega, rfl, Doing.start (HX.out.later HB1.out)⟩
  case round =>
    obtain ⟨k, hk, rfl, hd⟩ := hrel
    have HD := Lib.hid hd
    clear hd
    by_cases hlt : k < m
    · have c1 := HD.out.cellAt (show k < n by omega)
      have f1 := HD.out.freeAt (show k < n by omega)
      have c2 : wr.cell? ⟨b, o + k, none⟩ = some (B (y k)) := ((HY.out.later HB1.out).upd HD.out.upd fun _ => hbg) k hlt
      have hyk : (y k).toNat < 256 := (y k).toNat_lt
      have c3 : wr.cell? ⟨w.heap.size, (y k).toNat, none⟩ = some (B (Gf.mul s (y k))) := by
        have := (HT.out.upd HD.out.upd fun _ => by omega).cell (y k).toNat (y k).toNat_lt
        rw [Nat.zero_add] at this
        rw [this]; simp [bs]
      have hkn : k < n := by omega
      have hy1 : ((y k).toNat : Int) < 256 := by omega
      have hy0 : (0 : Int) ≤ ((y k).toNat : Int) := by omega
      go_wp2_with fail
      go_still_tail 11, mixed
      change wpList _ _ _ _ _ (wr.drewN 1)
      go_wp2
      go_roundw
      case rel => exact ⟨k + 1, by omega, by go_num, (HD.out.drewN 1).next (by omega) (by simp only [if_pos hlt]; exact xor8 _ _)⟩
      case measure => simp [intOf]; omega
    · go_wp2
      go_returns
      obtain rfl : k = m := by omega
      have hU : Upd (· = g) w w1 := (Upd.of_below HB1.out).mono fun _ _ h => h.elim
      exact ⟨rfl, hU.trans HD.out.upd fun _ e _ => e, (KdKept.below HB1.out).trans HD.out.kd, HD.out.row.congr fun j _ => by by_cases e : j < k <;> simp [bs, e]⟩

/-- AddTo, of whatever rows. -/
theorem addTo_any (a : Option Addr) (g n c b o m c' : Nat) (x y : Nat → UInt8) (s : UInt8) (w : World) (hx : Row w g 0 n (bs x)) (ha : 0 < m → a = some ⟨b, o, none⟩) (hy : Rd w b o m (bs y)) (hb : 0 < m → b ≠ g) (hm : m ≤ n) (hn : n ≤ 1000000) :
    Calls Tryd.prog 47 #[.slice (some ⟨g, 0, none⟩) n c, .slice a m c', B s] w fun e w' => e = .returned (.tuple #[]) ∧ Added w w' g n (fun j => if j < m then x j ^^^ Gf.mul s (y j) else x j) := by
  by_cases h0 : s = 0
  · subst h0
    refine (addTo_zero _ _ w).mono ?_
    rintro e w' ⟨rfl, rfl⟩
    exact ⟨rfl, Upd.refl _ _, KdKept.refl _, hx.congr fun j _ => by by_cases e : j < m <;> simp [bs, e, Gf.zero_mul]⟩
  by_cases h1 : s = 1
  · subst h1
    exact (addTo_one a g n c b o m c' x y w hx ha hy hb hm hn).mono fun e w' ⟨h, hd⟩ => ⟨h, hd.added⟩
  by_cases hs : m < 100
  · exact (addTo_small a g n c b o m c' x y s w hx ha hy hb hm hn h0 h1 hs).mono fun e w' ⟨h, hd⟩ => ⟨h, hd.added⟩
  · exact addTo_long a g n c b o m c' x y s w hx ha hy hb hm hn h0 h1 hs
end Go.Proofs.YthaamnjpjkkolabDoor
