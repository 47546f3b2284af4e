import Derived.Test.YthaamnjpjkkolabDoorDec
import Derived.Test.YthaamnjpjkkolabDoorBits
/- The short way: the others of a shard's group. -/
namespace Go.Proofs.YthaamnjpjkkolabDoor
open Go.RowKit Go.Proofs Lin Go.Shelf
set_option maxRecDepth 100000
set_option linter.unusedVariables false

theorem one_bit {N x i : Nat} (h : sel N x.testBit = [i]) (hx : x < 2 ^ N) : x = 2 ^ i := by
  rw [← mask_sel hx, h]; simp [mask]
theorem pop_eq {N x : Nat} (hN : N ≤ 16) (hx : x < 2 ^ N) : pop x = (sel N x.testBit).length := by
  unfold pop
  have e : sel 16 x.testBit = sel N x.testBit := by
    refine List.Perm.eq_of_pairwise (le := (· < ·)) (fun a b _ _ h1 h2 => by omega) (sel_pair _ _) (sel_pair _ _) ?_
    refine (List.perm_ext_iff_of_nodup ((sel_pair _ _).imp fun h => Nat.ne_of_lt h) ((sel_pair _ _).imp fun h => Nat.ne_of_lt h)).2 fun i => ?_
    rw [mem_sel, mem_sel]
    refine ⟨fun ⟨_, h⟩ => ⟨?_, h⟩, fun ⟨h1, h⟩ => ⟨by omega, h⟩⟩
    refine Classical.byContradiction fun hn => ?_
    rw [Nat.testBit_lt_two_pow (Nat.lt_of_lt_of_le hx (Nat.pow_le_pow_right (by omega) (by omega)))] at h
    exact absurd h (by simp)
  rw [e]
theorem ctz_pow : ∀ i < 16, Lib.ctz 64 (2 ^ i) = i := by decide

theorem mask_snoc (l : List Nat) (a : Nat) : mask (l ++ [a]) = mask l ||| 2 ^ a := by
  apply Nat.eq_of_testBit_eq
  intro i
  rw [Nat.testBit_or, testBit_mask, testBit_mask, Nat.testBit_two_pow]
  by_cases h1 : i ∈ l <;> by_cases h2 : a = i <;> simp [h1, h2, eq_comm]
/-- The group in the making. -/
def gN (D g s k : Nat) : Nat := 2 ^ (D + g) ||| mask (sel k fun j => j / s == g)
theorem gN_zero (D g s : Nat) : gN D g s 0 = 2 ^ (D + g) := by simp [gN, sel, mask]
theorem gN_hit {D g s k : Nat} (h : k / s = g) : gN D g s (k + 1) = gN D g s k ||| 2 ^ k := by
  unfold gN; rw [sel_succ, if_pos (by simpa using h), mask_snoc, Nat.or_assoc]
theorem gN_miss {D g s k : Nat} (h : k / s ≠ g) : gN D g s (k + 1) = gN D g s k := by
  unfold gN; rw [sel_succ, if_neg (by simpa using h)]
theorem gN_lt {D g s k : Nat} (h : D + g < 16) (hk : k ≤ 16) : gN D g s k < 2 ^ 16 :=
  Nat.or_lt_two_pow (Nat.pow_lt_pow_right (by omega) h) (mask_lt fun i hi => by have := (mem_sel.1 hi).1; omega)

theorem or_spell2 (s a : Nat) (hs : s < 2 ^ 16) (ha : a < 16) : bits BinOp.or IntKind.u64 (s : Int) (IntKind.u64.wrap ((2 : Int) ^ a)) = ((s ||| 2 ^ a : Nat) : Int) := by
  have hp : 2 ^ a < 2 ^ 16 := Nat.pow_lt_pow_right (by omega) ha
  have hlt : s ||| 2 ^ a < 2 ^ 16 := Nat.or_lt_two_pow hs hp
  have e0 : (2 : Int) ^ a = ((2 ^ a : Nat) : Int) := by simp
  have e1 : IntKind.u64.wrap ((2 : Int) ^ a) = ((2 ^ a : Nat) : Int) := by rw [e0]; exact wraps_u64 _ (Int.natCast_nonneg _) (by omega)
  rw [e1]
  show IntKind.u64.wrap ((BitVec.ofInt 64 (s : Int) ||| BitVec.ofInt 64 ((2 ^ a : Nat) : Int)).toNat : Int) = _
  rw [BitVec.toNat_or, ofInt_u64 _ (by omega), ofInt_u64 _ (by omega)]
  exact wraps_u64 _ (Int.natCast_nonneg _) (by omega)
theorem shl16 (a : Nat) (ha : a < 16) : IntKind.u64.wrap ((2 : Int) ^ a) = ((2 ^ a : Nat) : Int) := by
  have hp : 2 ^ a < 2 ^ 16 := Nat.pow_lt_pow_right (by omega) ha
  have e0 : (2 : Int) ^ a = ((2 ^ a : Nat) : Int) := by simp
  rw [e0]; exact wraps_u64 _ (Int.natCast_nonneg _) (by omega)

theorem andNot_spell (a b : Nat) (ha : a < 2 ^ 64) (hb : b < 2 ^ 64) : bits BinOp.andNot IntKind.u64 (a : Int) (b : Int) = ((a &&& (2 ^ 64 - (b + 1)) : Nat) : Int) := by
  show IntKind.u64.wrap ((BitVec.ofInt 64 (a : Int) &&& ~~~ BitVec.ofInt 64 (b : Int)).toNat : Int) = _
  rw [BitVec.toNat_and, BitVec.toNat_not, ofInt_u64 _ ha, ofInt_u64 _ hb, show 2 ^ 64 - 1 - b = 2 ^ 64 - (b + 1) by omega]
  have h3 : a &&& (2 ^ 64 - (b + 1)) ≤ a := Nat.and_le_left
  exact wraps_u64 _ (Int.natCast_nonneg _) (by omega)

theorem gN_end {D L G i : Nat} (h2 : D ≤ 12) (h7 : D + L + G ≤ 16) (hg : grp D L i < L) (hi : i < 64) : gN D (grp D L i) (D / L) D &&& (2 ^ 64 - (2 ^ i + 1)) = locN D L (D + L + G) i := by
  have hp : 2 ^ i < 2 ^ 64 := Nat.pow_lt_pow_right (by omega) hi
  apply Nat.eq_of_testBit_eq
  intro b
  rw [Bool.eq_iff_iff, loc_bit, inG_iff, Nat.testBit_and, Nat.testBit_two_pow_sub_succ hp, Nat.testBit_two_pow]
  unfold gN
  rw [Nat.testBit_or, Nat.testBit_two_pow, testBit_mask]
  generalize grp D L i = g at *
  by_cases h : b < 64
  · simp [mem_sel]
    constructor
    · rintro ⟨h1, h2, h3⟩
      refine ⟨?_, ?_, Ne.symm h3⟩
      · rcases h1 with h1 | h1 <;> omega
      · rcases h1 with h1 | h1
        · exact .inl h1.symm
        · exact .inr h1
    · rintro ⟨h1, h2, h3⟩
      refine ⟨?_, by omega, Ne.symm h3⟩
      rcases h2 with h2 | h2
      · exact .inl h2.symm
      · exact .inr h2
  · constructor
    · intro h'
      have : ¬ b < 64 := h
      simp [this] at h'
    · rintro ⟨h1, _, _⟩; omega

def LocalIs (D L N x : Nat) (w : World) (e : Ending) (w' : World) : Prop :=
  ((∃ i, sel N x.testBit = [i] ∧ i < D + L ∧ e = .returned (.tuple #[U (locN D L N i), .bool true])) ∨ ((∀ i, sel N x.testBit = [i] → ¬ i < D + L) ∧ e = .returned (.tuple #[U 0, .bool false]))) ∧ ∃ q, w' = w.drewN q

theorem quietly {f : FuncId} {args : Array Value} {v : Value} {w : World} (h : Calls Tryd.prog f args w fun e w' => e = .returned v ∧ w = w') : Calls Tryd.prog f args w fun e w' => e = .returned v ∧ ∃ q, w' = w.drewN q :=
  h.mono fun e w' ⟨he, hw⟩ => ⟨he, 0, hw ▸ rfl⟩

theorem tab_drew {w : World} {g : Nat} {tab : List Nat} (h : TabAt g tab w) (q : Nat) : TabAt g tab (w.drewN q) := h

set_option maxHeartbeats 1000000 in
theorem local_many (w0 : World) (cb D L G x : Nat) (v : Value) (β : Nat → Nat) (w : World) (hC : CodeAt w0 w cb D L G v β) (hR : Right D L G) (hx : x < 2 ^ (D + L + G)) (hT : TabAt 1 Lib.deBruijn64tab w) (hno : (sel (D + L + G) x.testBit).length ≠ 1) :
    Calls Tryd.prog 69 #[.pointer (some ⟨cb, 0, none⟩), U x] w (LocalIs D L (D + L + G) x w) := by
  have h7 := hR.sum
  have hx16 : x < 65536 := Nat.lt_of_lt_of_le hx (Nat.pow_le_pow_right (by omega) h7)
  have HP := pop_eq h7 hx
  have HNO := Lib.hid (show ∀ i, sel (D + L + G) x.testBit = [i] → ¬ i < D + L from fun i hi => absurd (by rw [hi]; rfl) hno)
  obtain ⟨t, ht⟩ : ∃ t : Nat, Calls Tryd.prog 77 #[U x] w fun e w2 => e = .returned (I (t : Nat)) ∧ w = w2 := by
    by_cases h0 : x = 0
    · subst h0; exact ⟨64, ctz_zero w⟩
    · exact ⟨_, ctz_any x h0 (by omega) w hT⟩
  have HT := Lib.hid ht
  have HO := Lib.hid (fun w => quietly (ones_any x hx16 w))
  rw [HP] at HO
  generalize (sel (D + L + G) x.testBit).length = p at *
  have hb : ((p : Int) != 1) = true := by simp; omega
  clear hT ht HP hno hx hC hR
  go_enter Tryd.func69, Tryd.ntmps69
  go_wp2_with (go_at_call 77; refine HT.out.mono ?_; rintro e w' ⟨rfl, rfl⟩)
  go_quiet ((go_at_call 78; exact Calls.quiet_of (HO.out _)))
  go_wp2_with fail
  go_ret2
  exact ⟨.inr ⟨HNO.out, rfl⟩, _, rfl⟩

set_option maxHeartbeats 1000000 in
theorem local_far (w0 : World) (cb D L G x i : Nat) (v : Value) (β : Nat → Nat) (w : World) (hC : CodeAt w0 w cb D L G v β) (hR : Right D L G) (hx : x < 2 ^ (D + L + G)) (hT : TabAt 1 Lib.deBruijn64tab w) (hs : sel (D + L + G) x.testBit = [i]) (hi : ¬ i < D + L) :
    Calls Tryd.prog 69 #[.pointer (some ⟨cb, 0, none⟩), U x] w (LocalIs D L (D + L + G) x w) := by
  have h7 := hR.sum
  have hx16 : x < 65536 := Nat.lt_of_lt_of_le hx (Nat.pow_le_pow_right (by omega) h7)
  have HP := pop_eq h7 hx
  rw [hs, List.length_singleton] at HP
  have HNO := Lib.hid (show ∀ j, sel (D + L + G) x.testBit = [j] → ¬ j < D + L from fun j hj => by rw [hs] at hj; cases hj; exact hi)
  have hiN : i < D + L + G := (mem_sel.1 (show i ∈ sel (D + L + G) x.testBit by rw [hs]; exact List.mem_singleton.2 rfl)).1
  have hxi := one_bit hs hx
  have HT := ctz_any x (by rw [hxi]; have := Nat.pow_pos (n := i) (show 0 < 2 by omega); omega) (by omega) w hT
  rw [show Lib.ctz 64 x = i by rw [hxi]; exact ctz_pow i (by omega)] at HT
  replace HT := Lib.hid HT
  have HO := Lib.hid (fun w => quietly (ones_any x hx16 w))
  rw [HP, show ((1 : Nat) : Int) = 1 from rfl] at HO
  have c0 : w.cell? ⟨cb, 0, none⟩ = some (I D) := hC.par.cell 0 (by omega)
  have c1 : w.cell? ⟨cb, 1, none⟩ = some (I L) := hC.par.cell 1 (by omega)
  have h2 := hR.d2; have h4 := hR.l2
  have hb : decide ((D : Int) + (L : Int) ≤ (i : Int)) = true := by simp; omega
  clear hT HP hx hC hR hs hxi
  go_enter Tryd.func69, Tryd.ntmps69
  go_wp2_with (go_at_call 77; refine HT.out.mono ?_; rintro e w' ⟨rfl, rfl⟩)
  go_quiet ((go_at_call 78; exact Calls.quiet_of (HO.out _)))
  go_wp2_with fail
  go_ret2
  exact ⟨.inr ⟨HNO.out, rfl⟩, _, rfl⟩

set_option maxHeartbeats 2000000 in
theorem local_near (w0 : World) (cb D L G x i : Nat) (v : Value) (β : Nat → Nat) (w : World) (hC : CodeAt w0 w cb D L G v β) (hR : Right D L G) (hx : x < 2 ^ (D + L + G)) (hT : TabAt 1 Lib.deBruijn64tab w) (hs : sel (D + L + G) x.testBit = [i]) (hi : i < D + L) :
    Calls Tryd.prog 69 #[.pointer (some ⟨cb, 0, none⟩), U x] w (LocalIs D L (D + L + G) x w) := by
  have h7 := hR.sum; have h1 := hR.d1; have h2 := hR.d2; have h3 := hR.l1; have h4 := hR.l2; have h6 := hR.div
  have hx16 : x < 65536 := Nat.lt_of_lt_of_le hx (Nat.pow_le_pow_right (by omega) h7)
  have HP := pop_eq h7 hx
  rw [hs, List.length_singleton] at HP
  have hxi := one_bit hs hx
  have HT := ctz_any x (by rw [hxi]; have := Nat.pow_pos (n := i) (show 0 < 2 by omega); omega) (by omega) w hT
  rw [show Lib.ctz 64 x = i by rw [hxi]; exact ctz_pow i (by omega)] at HT
  replace HT := Lib.hid HT
  have HO := Lib.hid (fun w => quietly (ones_any x hx16 w))
  rw [HP, show ((1 : Nat) : Int) = 1 from rfl] at HO
  have c0 : w.cell? ⟨cb, 0, none⟩ = some (I D) := hC.par.cell 0 (by omega)
  have c1 : w.cell? ⟨cb, 1, none⟩ = some (I L) := hC.par.cell 1 (by omega)
  have hb : decide ((D : Int) + (L : Int) ≤ (i : Int)) = false := by simp; omega
  obtain ⟨s, hsz⟩ : ∃ s, s = D / L := ⟨_, rfl⟩
  have hD : D = L * s := by have := Nat.div_add_mod D L; rw [h6, ← hsz] at this; omega
  have hs0 : 0 < s := by
    rcases Nat.eq_zero_or_pos s with h | h
    · rw [h] at hD; simp at hD; omega
    · exact h
  obtain ⟨g, hg⟩ : ∃ g, g = grp D L i := ⟨_, rfl⟩
  have hgL : g < L := by
    rw [hg]; unfold grp
    by_cases h : i < D
    · rw [if_pos h, ← hsz]; exact (Nat.div_lt_iff_lt_mul hs0).2 (hD ▸ h)
    · rw [if_neg h]; omega
  have HE := gN_end (G := G) (i := i) h2 h7 (hg ▸ hgL) (by omega)
  rw [← hg, ← hsz] at HE
  have HFin := Lib.hid (show bits BinOp.andNot IntKind.u64 (gN D g s D : Int) (x : Int) = (locN D L (D + L + G) i : Int) by
    rw [andNot_spell _ _ (Nat.lt_of_lt_of_le (gN_lt (by omega) (by omega)) (by omega)) (by omega), ← HE, hxi])
  have HEnd := Lib.hid (show ∀ w' e, e = Ending.returned (.tuple #[U (locN D L (D + L + G) i), .bool true]) → (∃ q, w' = w.drewN q) → LocalIs D L (D + L + G) x w e w' from fun w' e he hq => ⟨.inl ⟨i, hs, hi, he⟩, hq⟩)
  have HG := Lib.hid (fun j hj w (hp : Row w cb 0 3 (pcells D L G)) => group_any cb D L G j s (j / s) h3 h2 hs0 hsz rfl hj w hp)
  have HPar := Lib.hid hC.par
  have HZ := Lib.hid (gN_zero D g s)
  have HS := Lib.hid (shl16 (D + g) (by omega))
  have hgi : (i < D ∧ i / s = g) ∨ (¬ i < D ∧ i = D + g) := by
    rw [hg]; unfold grp
    by_cases h : i < D
    · rw [if_pos h, ← hsz]; exact .inl ⟨h, rfl⟩
    · rw [if_neg h]; exact .inr ⟨h, by omega⟩
  clear hT HP hx hC hR hs hxi hD hsz hg HE h6
  have hb3 : ∀ q, (w.drewN q).cell? ⟨cb, 0, none⟩ = some (I D) := fun _ => c0
  rcases hgi with ⟨hiD, hig⟩ | ⟨hiD, hig⟩
  case' inl =>
    have HGi := Lib.hid (HG.out i (by omega))
    rw [hig] at HGi
    have hb2 : decide ((i : Int) < (D : Int)) = true := by simp; omega
    clear hig
    go_enter Tryd.func69, Tryd.ntmps69
    go_wp2_with (go_at_call 77; refine HT.out.mono ?_; rintro e w' ⟨rfl, rfl⟩)
    go_quiet ((go_at_call 78; exact Calls.quiet_of (HO.out _)))
    go_wp2_with (go_at_call 45; refine (HGi.out _ (HPar.out.drewN _)).mono ?_; rintro e w' ⟨rfl, q, rfl⟩)
  case' inr =>
    have hb2 : decide ((i : Int) < (D : Int)) = false := by simp; omega
    have hb4 : (i : Int) - (D : Int) = (g : Int) := by omega
    clear hig
    go_enter Tryd.func69, Tryd.ntmps69
    go_wp2_with (go_at_call 77; refine HT.out.mono ?_; rintro e w' ⟨rfl, rfl⟩)
    go_quiet ((go_at_call 78; exact Calls.quiet_of (HO.out _)))
    go_wp2_with fail
  all_goals
    go_loopw [8, 60] (fun t p wr => ∃ k : Nat, k ≤ D ∧ p = I k ∧ t = U (gN D g s k) ∧ ∃ q, wr = w.drewN q) (fun _ p _ => D - (intOf p).toNat)
    case atStart => exact ⟨0, by omega, rfl, by rw [HZ.out]; exact congrArg (Value.int .u64) HS.out, _, rfl⟩
    case round =>
      obtain ⟨k, hk, rfl, rfl, q, rfl⟩ := hrel
      by_cases hlt : k < D
      · have HGk := Lib.hid (HG.out k (by omega))
        obtain ⟨t, ht⟩ : ∃ t, t = k / s := ⟨_, rfl⟩
        rw [← ht] at HGk
        by_cases htg : t = g
        · have HN := Lib.hid (gN_hit (D := D) (show k / s = g by omega))
          have hlt2 := gN_lt (D := D) (g := g) (s := s) (k := k) (by omega) (by omega)
          have HO2 := Lib.hid (or_spell2 (gN D g s k) k hlt2 (by omega))
          have hb5 : ((t : Int) == (g : Int)) = true := by simp; omega
          generalize gN D g s k = u at *
          clear ht htg
          go_wp2_with (go_at_call 45; refine (HGk.out _ (HPar.out.drewN _)).mono ?_; rintro e w' ⟨rfl, q2, rfl⟩)
          go_roundw
          case rel => exact ⟨k + 1, by omega, by go_num, by rw [HN.out]; exact congrArg (Value.int .u64) HO2.out, _, rfl⟩
          case measure => simp [intOf]; omega
        · have HN := Lib.hid (gN_miss (D := D) (show k / s ≠ g by omega))
          have hb5 : ((t : Int) == (g : Int)) = false := by simp; omega
          clear ht htg
          go_wp2_with (go_at_call 45; refine (HGk.out _ (HPar.out.drewN _)).mono ?_; rintro e w' ⟨rfl, q2, rfl⟩)
          go_roundw
          case rel => exact ⟨k + 1, by omega, by go_num, by rw [HN.out], _, rfl⟩
          case measure => simp [intOf]; omega
      · obtain rfl : D = k := by omega
        go_wp2_with fail
        go_ret2
        exact HEnd.out _ _ (by show Ending.returned (.tuple #[.int .u64 (bits BinOp.andNot IntKind.u64 (gN D g s D : Int) (x : Int)), .bool true]) = _; rw [HFin.out]) ⟨_, rfl⟩

theorem local_any (w0 : World) (cb D L G x : Nat) (v : Value) (β : Nat → Nat) (w : World) (hC : CodeAt w0 w cb D L G v β) (hR : Right D L G) (hx : x < 2 ^ (D + L + G)) (hT : TabAt 1 Lib.deBruijn64tab w) :
    Calls Tryd.prog 69 #[.pointer (some ⟨cb, 0, none⟩), U x] w (LocalIs D L (D + L + G) x w) := by
  by_cases h : (sel (D + L + G) x.testBit).length = 1
  · obtain ⟨i, hs⟩ := List.length_eq_one_iff.1 h
    by_cases hi : i < D + L
    · exact local_near w0 cb D L G x i v β w hC hR hx hT hs hi
    · exact local_far w0 cb D L G x i v β w hC hR hx hT hs hi
  · exact local_many w0 cb D L G x v β w hC hR hx hT h
end Go.Proofs.YthaamnjpjkkolabDoor
