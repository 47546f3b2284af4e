import Derived.Test.YthaamnjpjkkolabDoorCompQ
import Derived.Test.YthaamnjpjkkolabDoorMaStep
/- What a program loads, by the law's own count. -/
namespace Go.Proofs.YthaamnjpjkkolabDoor
open Go.RowKit Go.Proofs
set_option maxRecDepth 100000
set_option linter.unusedVariables false

theorem loadedL_bd (P : List Stp) : (loadedL P).1 < 2 ^ 64 ∧ (loadedL P).2.1 ≤ P.length := by
  refine snoc_ind (P := fun P => (loadedL P).1 < 2 ^ 64 ∧ (loadedL P).2.1 ≤ P.length) (by decide) (fun l s ih => ?_) P
  rw [loadedL_snoc, List.length_append, List.length_singleton]
  unfold loadF
  split
  · rename_i h
    exact ⟨Nat.or_lt_two_pow ih.1 (Nat.pow_lt_pow_right (by omega) (by omega)), by simp only; omega⟩
  · exact ⟨ih.1, by omega⟩

theorem take_snoc {P : List Stp} {k : Nat} (h : k < P.length) : P.take (k + 1) = P.take k ++ [P.getD k Sd] := by
  rw [List.take_succ_eq_append_getElem h]; simp [List.getD_eq_getElem?_getD, h]

theorem or64_spell (x b : Nat) (hx : x < 2 ^ 64) (hb : b < 64) : bits .or .u64 (x : Int) (IntKind.u64.wrap ((2 : Int) ^ b)) = ((x ||| 2 ^ b : Nat) : Int) := by
  have hp : 2 ^ b < 2 ^ 64 := Nat.pow_lt_pow_right (by omega) hb
  have hlt : x ||| 2 ^ b < 2 ^ 64 := Nat.or_lt_two_pow hx hp
  have e0 : (2 : Int) ^ b = ((2 ^ b : Nat) : Int) := by simp
  have e1 : IntKind.u64.wrap ((2 : Int) ^ b) = ((2 ^ b : Nat) : Int) := by rw [e0]; exact wraps_u64 _ (Int.natCast_nonneg _) (by omega)
  rw [e1]
  show IntKind.u64.wrap ((BitVec.ofInt 64 (x : Int) ||| BitVec.ofInt 64 ((2 ^ b : Nat) : Int)).toNat : Int) = _
  rw [BitVec.toNat_or, ofInt_u64 _ (by omega), ofInt_u64 _ (by omega)]
  exact wraps_u64 _ (Int.natCast_nonneg _) (by omega)

theorem results_tmp3 {fn : Func} {t u v : Tmp} (h : fn.results = #[.tmp t, .tmp u, .tmp v]) (tmps : Array Value) (P : Program) (w : World) :
    (results fn tmps).run P w = .ok (.tuple #[tmps.getD t undef, tmps.getD u undef, tmps.getD v undef]) w := by
  simp [results, h]

def LoadedIs (w : World) (P : List Stp) (e : Ending) (w' : World) : Prop := e = .returned (.tuple #[U (loadedL P).1, I ((loadedL P).2.1 : Nat), .bool (loadedL P).2.2]) ∧ Below w.heap.size w w'

set_option maxHeartbeats 2000000 in
theorem loaded_any (a : Option Addr) (b o n c : Nat) (P : List Stp) (hn : P.length = n) (regs : Int) (w : World) (h : Stps w a b o n c fun i => sc (P.getD i Sd)) :
    Calls Tryd.prog 23 #[.agg #[I regs, .slice a n c]] w (LoadedIs w P) := by
  have HS := Lib.hid h
  have hcap := h.cap; have hmax := h.max
  have HN := Lib.hid hn
  clear h hn
  have HB := Lib.hid ((Below.refl w.heap.size w).alloc (Nat.le_refl _) (.cells #[I regs, .slice a n c] 39))
  go_enter Tryd.func23, Tryd.ntmps23
  go_wp2_with fail
  go_loopg [5, 6, 7, 8] n (fun g sv cv tv i wr => ∃ k : Nat, g = n - k ∧ k ≤ n ∧ i = I k ∧ sv = U (loadedL (P.take k)).1 ∧ cv = I ((loadedL (P.take k)).2.1 : Nat) ∧ tv = .bool (loadedL (P.take k)).2.2 ∧ Below w.heap.size w wr ∧ Below (w.heap.size + 1) (w.alloc (.cells #[I regs, .slice a n c] 39)) wr)
  case atStart => exact ⟨0, rfl, by omega, rfl, rfl, rfl, rfl, HB.out, Below.refl _ _⟩
  case round =>
    obtain ⟨k, rfl, hk, rfl, rfl, rfl, rfl, hb, hb2⟩ := hrel
    have HB1 := Lib.hid hb
    have HB2 := Lib.hid hb2
    clear hb hb2
    have p0 : wr.cell? ⟨w.heap.size, 0, none⟩ = some (I regs) := (HB2.out.cell (p := ⟨w.heap.size, 0, none⟩) (by simp)).trans (by simp)
    have p1 : wr.cell? ⟨w.heap.size, 1, none⟩ = some (.slice a n c) := (HB2.out.cell (p := ⟨w.heap.size, 1, none⟩) (by simp)).trans (by rw [cell_new]; rfl)
    by_cases hlt : k < n
    · obtain rfl := HS.out.addr (by omega)
      have hat := (HS.out.later HB1.out).rd.at4 hlt
      have hsz : w.heap.size < wr.heap.size := by have := HB2.out.size; rw [Deep.nblk_alloc] at this; omega
      have HT := Lib.hid (take_snoc (P := P) (k := k) (by rw [HN.out]; exact hlt))
      have hbd := loadedL_bd (P.take k)
      have hc63 : (loadedL (P.take k)).2.1 ≤ k := by have := hbd.2; rw [List.length_take] at this; omega
      have hs64 := hbd.1
      obtain ⟨t, ht⟩ : ∃ t, t = loadedL (P.take k) := ⟨_, rfl⟩
      obtain ⟨s, hs⟩ : ∃ s, s = P.getD k Sd := ⟨_, rfl⟩
      rw [← hs] at hat
      rw [← ht] at hc63 hs64 ⊢
      have HL := Lib.hid (show loadedL (P.take (k + 1)) = loadF t s by rw [HT.out, loadedL_snoc, ← ht, ← hs])
      obtain ⟨x, cn, tw⟩ := t
      have c0 : wr.cell? ⟨b, o + k * 4, none⟩ = some (B s.k) := hat.c0
      have c1 : wr.cell? ⟨b, o + k * 4 + 1, none⟩ = some (I s.a) := hat.c1
      have c2 : wr.cell? ⟨b, o + k * 4 + 2, none⟩ = some (I s.b) := hat.c2
      have c3 : wr.cell? ⟨b, o + k * 4 + 3, none⟩ = some (B s.c) := hat.c3
      clear ht hs hat hbd HT
      have HNx := Lib.hid (HB1.out.alloc HB1.out.size (.cells #[B s.k, I s.a, I s.b, B s.c] 84))
      have HNy := Lib.hid (HB2.out.alloc (by omega) (.cells #[B s.k, I s.a, I s.b, B s.c] 84))
      dsimp only at *
      by_cases k0 : s.k.toNat = 0
      case neg =>
        have HX := Lib.hid (show loadF (x, cn, tw) s = (x, cn, tw) by unfold loadF; rw [if_neg fun h => k0 h.1])
        have t1 : ((s.k.toNat : Int) == 0) = false := bfalse (by omega)
        clear k0
        go_wp2_with fail
        go_roundg (n - (k + 1))
        case measure => omega
        case rel => exact ⟨k + 1, rfl, by omega, by go_num, by rw [HL.out, HX.out], by rw [HL.out, HX.out], by rw [HL.out, HX.out], HNx.out, HNy.out⟩
      have t1 : ((s.k.toNat : Int) == 0) = true := btrue (by omega)
      by_cases b0 : s.b < 0
      · have HX := Lib.hid (show loadF (x, cn, tw) s = (x, cn, tw) by unfold loadF; rw [if_neg fun h => by omega])
        clear k0
        go_wp2_with fail
        go_roundg (n - (k + 1))
        case measure => omega
        case rel => exact ⟨k + 1, rfl, by omega, by go_num, by rw [HL.out, HX.out], by rw [HL.out, HX.out], by rw [HL.out, HX.out], HNx.out, HNy.out⟩
      by_cases b1 : s.b < 64
      case neg =>
        have HX := Lib.hid (show loadF (x, cn, tw) s = (x, cn, tw) by unfold loadF; rw [if_neg fun h => by omega])
        clear k0
        go_wp2_with fail
        go_roundg (n - (k + 1))
        case measure => omega
        case rel => exact ⟨k + 1, rfl, by omega, by go_num, by rw [HL.out, HX.out], by rw [HL.out, HX.out], by rw [HL.out, HX.out], HNx.out, HNy.out⟩
      obtain ⟨i, hi⟩ : ∃ i : Nat, s.b = i := Int.eq_ofNat_of_zero_le (by omega)
      have HX := Lib.hid (show loadF (x, cn, tw) s = (x ||| 2 ^ i, cn + 1, tw || x.testBit i) by unfold loadF; rw [if_pos ⟨k0, by omega, by omega⟩, hi]; rfl)
      rw [hi] at c2 b0 b1 HNx HNy
      have HO := Lib.hid (or64_spell x i hs64 (by omega))
      have HH := Lib.hid (has_spell x i hs64)
      clear k0 hi
      cases tw with
      | true =>
        go_wp2_with fail
        go_roundg (n - (k + 1))
        case measure => omega
        case rel => exact ⟨k + 1, rfl, by omega, by go_num, by rw [HL.out, HX.out]; exact congrArg (Value.int .u64) HO.out, by rw [HL.out, HX.out]; rfl, by rw [HL.out, HX.out]; rfl, HNx.out, HNy.out⟩
      | false =>
        go_wp2_with fail
        go_roundg (n - (k + 1))
        case measure => omega
        case rel => exact ⟨k + 1, rfl, by omega, by go_num, by rw [HL.out, HX.out]; exact congrArg (Value.int .u64) HO.out, by rw [HL.out, HX.out]; rfl, by rw [HL.out, HX.out]; exact congrArg Value.bool HH.out, HNx.out, HNy.out⟩
    · obtain rfl : n = k := by omega
      have HT := Lib.hid (show P.take n = P by rw [← HN.out]; exact List.take_length)
      go_wp2_with fail
      (try simp only [Exit.inBlock, Exit.then])
      refine bodyPost_ret (results_tmp3 rfl _ _ _) rfl ?_
      exact ⟨by rw [HT.out]; rfl, HB1.out⟩
end Go.Proofs.YthaamnjpjkkolabDoor
