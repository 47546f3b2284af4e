import Derived.Test.YthaamnjpjkkolabDoorOf
import Derived.Test.YthaamnjpjkkolabDoorCompP
import Derived.Test.YthaamnjpjkkolabDoorMaHeld
import Derived.StillTailTactics
/- The sets of so many shards of some, gone through: subsets. -/
namespace Go.Proofs.YthaamnjpjkkolabDoor
open Go.RowKit Go.Proofs Lin Go.Shelf
set_option maxRecDepth 100000
set_option linter.unusedVariables false

attribute [local go_sem] Oper.semAt_some

theorem room_none {F : Fence} (hd : F.depth = none) (k : Nat) : F.room k := fun d h => by rw [hd] at h; cases h
theorem yieldAny {F : Fence} (hd : F.depth = none) {m : Nat} (m' : Nat) {P : Program} {l : Nat} {args : Array Value} {W : World} {R : Ending → World → Prop} (h : YieldAt F m P l args W R) : YieldAt F m' P l args W R := by
  obtain ⟨fn, tmps, assign, body, hy, hR⟩ := h
  exact ⟨fn, tmps, assign, body, hy, hR.1, fun c cs _ => hR.2 c cs (room_none hd _)⟩

theorem or_bit (s a : Nat) (hs : s < 2 ^ 16) (ha : a < 16) : bits BinOp.or IntKind.u64 (s : Int) (IntKind.u64.wrap ((2 : Int) ^ a)) = ((s ||| 2 ^ a : Nat) : Int) ∧ s ||| 2 ^ a < 2 ^ 16 := by
  have hp : 2 ^ a < 2 ^ 16 := Nat.pow_lt_pow_right (by omega) ha
  have hlt : s ||| 2 ^ a < 2 ^ 16 := Nat.or_lt_two_pow hs hp
  have e0 : (2 : Int) ^ a = ((2 ^ a : Nat) : Int) := by simp
  have e1 : IntKind.u64.wrap ((2 : Int) ^ a) = ((2 ^ a : Nat) : Int) := by rw [e0]; exact wraps_u64 _ (Int.natCast_nonneg _) (by omega)
  refine ⟨?_, hlt⟩
  rw [e1]
  show IntKind.u64.wrap ((BitVec.ofInt 64 (s : Int) ||| BitVec.ofInt 64 ((2 ^ a : Nat) : Int)).toNat : Int) = _
  rw [BitVec.toNat_or, ofInt_u64 _ (by omega), ofInt_u64 _ (by omega)]
  exact wraps_u64 _ (Int.natCast_nonneg _) (by omega)

/-- What the closure finds: the places, itself. -/
structure SubIn (n₀ : Nat) (W : World) (ab fb : Nat) (all : List Nat) (a : Option Addr) (vb vc : Nat) : Prop where
  lab : ab < n₀
  lfb : fb < n₀
  lvb : 0 < all.length → vb < n₀
  box : W.cell? ⟨ab, 0, none⟩ = some (.slice a all.length vc)
  addr : 0 < all.length → a = some ⟨vb, 0, none⟩
  rd : Rd W vb 0 all.length (fun t => I (all.getD t 0 : Nat))
  fn : W.cell? ⟨fb, 0, none⟩ = some (.func (.func 79) #[] #[.pointer (some ⟨ab, 0, none⟩), .pointer (some ⟨fb, 0, none⟩)])
theorem SubIn.later {n₀ : Nat} {W W' : World} {ab fb : Nat} {all : List Nat} {a : Option Addr} {vb vc : Nat} (h : SubIn n₀ W ab fb all a vb vc) (hb : Below n₀ W W') : SubIn n₀ W' ab fb all a vb vc :=
  ⟨h.lab, h.lfb, h.lvb, (hb.cell (p := ⟨ab, 0, none⟩) h.lab).trans h.box, h.addr, fun i hi => (hb.cell (p := ⟨vb, 0 + i, none⟩) (h.lvb (by omega))).trans (h.rd i hi), (hb.cell (p := ⟨fb, 0, none⟩) h.lfb).trans h.fn⟩

def FromEnd (n₀ : Nat) (J Jx : List Nat → World → Prop) (pre L : List Nat) (W : World) (e : Ending) (W' : World) : Prop :=
  (e = .returned (.bool true) ∧ J (pre ++ L) W' ∧ Below n₀ W W') ∨ (e = .returned (.bool false) ∧ ∃ q, q <+: L ∧ Jx (pre ++ q) W')

theorem drop_getD {l : List Nat} {i : Nat} (h : i < l.length) : l.drop i = l.getD i 0 :: l.drop (i + 1) := by
  rw [List.drop_eq_getElem_cons h]; simp [List.getD_eq_getElem?_getD, h]

set_option maxHeartbeats 1000000 in
theorem from_any (l n₀ N ab fb vb vc : Nat) (a : Option Addr) (all : List Nat) (h16 : ∀ i ∈ all, i < 16) (J Jx : List Nat → World → Prop) (hJd : ∀ pre W, J pre W → J pre W.drew)
    (hY : ∀ (m : Nat) (pre : List Nat) (x : Nat) (W : World), x < 2 ^ 16 → J pre W → pre.length < N → YieldAt Fence.wide m Tryd.prog l #[U x] W fun e W' =>
      (e = .returned (.bool true) ∧ J (pre ++ [x]) W' ∧ Below n₀ W W') ∨ (e = .returned (.bool false) ∧ Jx (pre ++ [x]) W')) :
    ∀ (left at_ s : Nat) (pre : List Nat) (W : World), SubIn n₀ W ab fb all a vb vc → J pre W → at_ ≤ all.length → all.length ≤ 16 → left ≤ 16 → s < 2 ^ 16 → pre.length + (subs left (all.drop at_) s).length ≤ N →
      Calls Tryd.prog 79 #[I at_, U s, I left, .func (.yield l) #[] #[], .pointer (some ⟨ab, 0, none⟩), .pointer (some ⟨fb, 0, none⟩)] W (FromEnd n₀ J Jx pre (subs left (all.drop at_) s) W) := by
  intro left
  induction left with
  | zero =>
    intro at_ s pre W hS hJ hat h16' hl hs hN
    simp only [subs, List.length_singleton] at hN
    obtain ⟨fn, tmps, assign, body, hy, hR⟩ := hY 2 pre s W hs hJ (by omega)
    refine (callsIn_wide (n := 3)).1 (callsIn_of_wp Tryd.func79 rfl trivial ?_ rfl)
    simp only [Tryd.ntmps79, List.size_toArray, List.length_cons, List.length_nil, Nat.reduceAdd, Nat.reduceSub, Array.replicate_succ, Array.replicate_zero, List.push_toArray, List.append_toArray, List.nil_append, List.cons_append]
    gi_wp2_with fail
    refine hR.mono ?_
    rintro e W' (⟨rfl, hJ', hb⟩ | ⟨rfl, hx⟩)
    · have HE := Lib.hid (show FromEnd n₀ J Jx pre (subs 0 (all.drop at_) s) W (.returned (.bool true)) W' from .inl ⟨rfl, by simpa [subs] using hJ', hb⟩)
      clear hJ' hb
      gi_wp2
      go_ret
      exact HE.out
    · have HE := Lib.hid (show FromEnd n₀ J Jx pre (subs 0 (all.drop at_) s) W (.returned (.bool false)) W' from .inr ⟨rfl, [s], by simp [subs], hx⟩)
      clear hx
      gi_wp2
      go_ret
      exact HE.out
  | succ left ih =>
    intro at_ s pre W hS hJ hat h16' hl hs hN
    have HS0 := Lib.hid hS
    have HN := Lib.hid hN
    have HJ := Lib.hid hJ
    have HI := Lib.hid ih
    have H16 := Lib.hid h16
    have HJD := Lib.hid hJd
    clear hS hN hJ ih h16 hJd
    obtain ⟨m, hm⟩ : ∃ m, m = left + 1 := ⟨_, rfl⟩
    rw [← hm] at HN hl ⊢
    have HM := Lib.hid hm
    have HL1 : (m : Int) - 1 = (left : Int) := by omega
    have HL2 : ((m : Int) == 0) = false := by simp; omega
    have hm1 : 1 ≤ m := by omega
    clear hm
    go_enter Tryd.func79, Tryd.ntmps79
    go_wp2_with fail
    go_loopw [11] (fun p wr => ∃ (i : Nat) (q : List Nat), p = I i ∧ at_ ≤ i ∧ i ≤ all.length ∧ J (pre ++ q) wr ∧ q ++ subs m (all.drop i) s = subs m (all.drop at_) s ∧ Below n₀ W wr)
      (fun p _ => all.length - (intOf p).toNat)
    case atStart => exact ⟨at_, [], rfl, Nat.le_refl _, hat, by simpa using HJ.out, by simp, Below.refl _ _⟩
    case round =>
      obtain ⟨i, q, rfl, hi1, hi2, hJ, hq, hB⟩ := hrel
      have HSi := Lib.hid (HS0.out.later hB)
      have HQ := Lib.hid hq
      have HJi := Lib.hid hJ
      have HBi := Lib.hid hB
      have cA : wr.cell? ⟨ab, 0, none⟩ = some (.slice a all.length vc) := HSi.out.box
      have cF : wr.cell? ⟨fb, 0, none⟩ = some (.func (.func 79) #[] #[.pointer (some ⟨ab, 0, none⟩), .pointer (some ⟨fb, 0, none⟩)]) := HSi.out.fn
      clear hq hJ hB
      by_cases hlt : i + m ≤ all.length
      · have hia : i < all.length := by omega
        obtain rfl := HSi.out.addr (by omega)
        have cV : wr.cell? ⟨vb, i, none⟩ = some (I (all.getD i 0 : Nat)) := by have := HSi.out.rd i hia; rwa [Nat.zero_add] at this
        have ha16 : all.getD i 0 < 16 := H16.out _ (getD_mem hia)
        have HD := Lib.hid (drop_getD hia)
        generalize hai : all.getD i 0 = ai at *
        have HO := Lib.hid (or_bit s ai hs ha16)
        have hlt' : decide ((i : Int) + (m : Int) ≤ (all.length : Int)) = true := by simp; omega
        have HC := Lib.hid (HI.out (i + 1) (s ||| 2 ^ ai) (pre ++ q) wr.drew (HSi.out.later (n₀ := n₀) ⟨rfl, rfl, rfl, Nat.le_refl _, fun _ _ => rfl⟩) (HJD.out _ _ HJi.out) (by omega) h16' (by omega) HO.out.2 (by
          have h1 := HN.out; rw [← HQ.out, HD.out, HM.out, subs] at h1
          simp only [List.length_append] at h1 ⊢; omega))
        go_wp2_with fail
        go_still_tail 13, mixed
        change wpList _ _ _ _ _ (wr.drewN 1)
        go_wp2_with (go_at_call 79; rw [HO.out.1]; refine HC.out.mono ?_; rintro e W2 (⟨rfl, hJ2, hb2⟩ | ⟨rfl, q2, hq2, hx2⟩))
        · have HJ2 := Lib.hid hJ2
          have HB2 := Lib.hid hb2
          clear hJ2 hb2
          go_wp2_with fail
          go_roundw
          case rel => exact ⟨i + 1, q ++ subs left (all.drop (i + 1)) (s ||| 2 ^ ai), by go_num, by omega, by have := HM.out; omega, by rw [← List.append_assoc]; exact HJ2.out, by rw [← HQ.out, HD.out, HM.out, subs, List.append_assoc], (HBi.out.trans (show Below n₀ wr wr.drew from ⟨rfl, rfl, rfl, Nat.le_refl _, fun _ _ => rfl⟩)).trans HB2.out⟩
          case measure => simp [intOf]; omega
        · have HE := Lib.hid (show FromEnd n₀ J Jx pre (subs m (all.drop at_) s) W (.returned (.bool false)) W2 from .inr ⟨rfl, q ++ q2, by
            rw [← HQ.out, HD.out, HM.out, subs]
            obtain ⟨t, ht⟩ := hq2
            exact ⟨t ++ subs (left + 1) (all.drop (i + 1)) s, by rw [← ht]; simp [List.append_assoc]⟩, by rw [← List.append_assoc]; exact hx2⟩)
          clear hq2 hx2
          go_wp2_with fail
          go_ret
          exact HE.out
      · have HZ := Lib.hid (subs_short (l := all.drop i) (n := m) (s := s) (by simp; omega))
        have hlt' : decide ((i : Int) + (m : Int) ≤ (all.length : Int)) = false := by simp; omega
        have HE := Lib.hid (show FromEnd n₀ J Jx pre (subs m (all.drop at_) s) W (.returned (.bool true)) wr from .inl ⟨rfl, by
          have h := HQ.out; rw [HZ.out, List.append_nil] at h; rw [← h]; exact HJi.out, HBi.out⟩)
        go_wp2_with fail
        go_ret
        exact HE.out
end Go.Proofs.YthaamnjpjkkolabDoor
