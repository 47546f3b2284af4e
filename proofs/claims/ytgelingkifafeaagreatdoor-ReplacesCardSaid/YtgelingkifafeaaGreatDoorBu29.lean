import Derived.Test.YtgelingkifafeaaGreatDoorBu28
import Derived.Test.YtgelingkifafeaaGreatDoorBu11
import Derived.Deep.RegionWith
/- Decodable. -/
namespace Go.Proofs.YtgelingkifafeaaGreatDoor
open Go.RowKit Go.Proofs Lin Go.Shelf
set_option maxRecDepth 100000
set_option linter.unusedVariables false

theorem of_any (w0 : World) (cb D L G x : Nat) (v : Value) (β : Nat → Nat) (w : World) (hC : CodeAt w0 w cb D L G v β) (hR : Right D L G) (hx : x < 2 ^ 64) :
    Calls Tryz.prog 88 #[.pointer (some ⟨cb, 0, none⟩), U x] w (OfEnd w D L G x β) :=
  (callsIn_wide (n := 3)).1 (of_in Fence.wide 3 trivial trivial trivial trivial trivial rfl (Nat.le_refl _) w0 cb D L G x v β w hC hR hx)

theorem CodeAt.later {w0 w w' : World} {cb D L G : Nat} {v : Value} {β : Nat → Nat} (h : CodeAt w0 w cb D L G v β) (hb : Below w.heap.size w w') : CodeAt w0 w' cb D L G v β :=
  ⟨h.below.trans (hb.mono h.below.size), h.own, h.kd.later hb, h.par.later hb, h.at3.later hb, h.gm.later hb⟩

set_option maxHeartbeats 400000 in
theorem whole_any (w0 : World) (cb D L G x : Nat) (v : Value) (β : Nat → Nat) (w : World) (hC : CodeAt w0 w cb D L G v β) (hR : Right D L G) (hx : x < 2 ^ 64) :
    Calls Tryz.prog 89 #[.pointer (some ⟨cb, 0, none⟩), U x] w fun e w' => e = .returned (U (x % 2 ^ (D + L + G))) ∧ Below w.heap.size w w' := by
  have h1 := hR.d1; have h2 := hR.d2; have h3 := hR.l1; have h4 := hR.l2; have h5 := hR.g2; have h7 := hR.sum
  clear hR
  have hcb : cb < w.heap.size := hC.kd.lt
  have c0 : w.cell? ⟨cb, 0, none⟩ = some (I D) := hC.par.cell 0 (by omega)
  have c1 : w.cell? ⟨cb, 1, none⟩ = some (I L) := hC.par.cell 1 (by omega)
  have c2 : w.cell? ⟨cb, 2, none⟩ = some (I G) := hC.par.cell 2 (by omega)
  clear hC
  have HNN := Lib.hid (show (D : Int) + (L : Int) + (G : Int) = ((D + L + G : Nat) : Int) by simp)
  obtain ⟨N, hN⟩ : ∃ N, N = D + L + G := ⟨_, rfl⟩
  rw [← hN] at HNN ⊢
  have hN16 : N ≤ 16 := by omega
  go_enter Tryz.func89, Tryz.ntmps89
  go_wp2_with (go_at_call 15; refine (shards_any D L G (by omega) _).mono ?_; rintro e w1 ⟨rfl, hb⟩; have HB := Lib.hid hb; clear hb; rw [HNN.out])
  go_ret
  refine ⟨?_, HB.out⟩
  have e0 : (2 : Int) ^ (D + L + G) = ((2 ^ N : Nat) : Int) := by rw [hN]; simp
  have hp : 2 ^ N ≤ 2 ^ 16 := Nat.pow_le_pow_right (by omega) hN16
  have hp0 : 0 < 2 ^ N := Nat.pow_pos (by omega)
  have e1 : IntKind.u64.wrap ((2 : Int) ^ (D + L + G)) = ((2 ^ N : Nat) : Int) := by rw [e0]; exact wraps_u64 _ (Int.natCast_nonneg _) (by omega)
  have e2 : IntKind.u64.wrap (IntKind.u64.wrap ((2 : Int) ^ (D + L + G)) - 1) = ((2 ^ N - 1 : Nat) : Int) := by rw [e1, ← Int.ofNat_one, ← Int.ofNat_sub (by omega)]; exact wraps_u64 _ (Int.natCast_nonneg _) (by omega)
  have e3 : bits BinOp.and IntKind.u64 (x : Int) ((2 ^ N - 1 : Nat) : Int) = ((x % 2 ^ N : Nat) : Int) := by rw [u64_and_nat _ _ hx (by omega), Nat.and_two_pow_sub_one_eq_mod]
  show Ending.returned (.int .u64 (bits BinOp.and IntKind.u64 (x : Int) (IntKind.u64.wrap (IntKind.u64.wrap ((2 : Int) ^ (D + L + G)) - 1)))) = _
  rw [e2, e3]

theorem u64_not (x : Nat) (hx : x < 2 ^ 64) : bits BinOp.xor IntKind.u64 IntKind.u64.max (x : Int) = ((2 ^ 64 - (x + 1) : Nat) : Int) := by
  have hm : (IntKind.u64.max : Int) = ((2 ^ 64 - 1 : Nat) : Int) := by decide
  have hx2 : (2 ^ 64 - 1) ^^^ x = 2 ^ 64 - (x + 1) := by
    apply Nat.eq_of_testBit_eq
    intro i
    rw [Nat.testBit_xor, Nat.testBit_two_pow_sub_one, Nat.testBit_two_pow_sub_succ hx]
    by_cases h : i < 64
    · simp [h]
    · have : x.testBit i = false := Nat.testBit_lt_two_pow (Nat.lt_of_lt_of_le hx (Nat.pow_le_pow_right (by omega) (by omega)))
      simp [h, this]
  show IntKind.u64.wrap ((BitVec.ofInt 64 IntKind.u64.max ^^^ BitVec.ofInt 64 (x : Int)).toNat : Int) = _
  rw [hm, BitVec.toNat_xor, ofInt_u64 _ (by omega), ofInt_u64 x (by omega), hx2]
  exact wraps_u64 _ (Int.natCast_nonneg _) (by omega)

theorem sel_congr {n : Nat} {p q : Nat → Bool} (h : ∀ i, i < n → p i = q i) : sel n p = sel n q := by
  unfold sel
  exact List.filter_congr fun i hi => h i (by simpa using hi)

/-- The places of a code that are left. -/
def left (N x : Nat) : List Nat := sel N fun i => !x.testBit i
theorem left_eq {N x : Nat} (hN : N ≤ 16) (hx : x < 2 ^ 64) : sel N ((2 ^ 64 - (x + 1)) % 2 ^ N).testBit = left N x := by
  refine sel_congr fun i hi => ?_
  rw [Nat.testBit_mod_two_pow, Nat.testBit_two_pow_sub_succ hx]
  simp [hi]; omega

/-- Rows alone. -/
def plainS (D : Nat) (M : Mat) (l : List Nat) : Nat → Sl := fun t => ⟨none, 0, 0, D, D, M (l.getD t 0)⟩
def rankL (D : Nat) (M : Mat) (l : List Nat) : Int := rankV l.length (plainS D M l)
def decB (D L G x : Nat) : Bool := rankL D (codeM D L) (left (D + L + G) x) == (D : Int)

/-- Rows in memory, at the places of a list. -/
def rowsS (D : Nat) (M : Mat) (β : Nat → Nat) (l : List Nat) : Nat → Sl := fun t => Gm.sl D M β (l.getD t 0)
theorem rankL_of (D : Nat) (M : Mat) (β : Nat → Nat) (l : List Nat) : rankV l.length (rowsS D M β l) = rankL D M l :=
  rankV_congr (fun _ _ => rfl) (fun _ _ => rfl)
theorem getD_mem {l : List Nat} {t : Nat} (h : t < l.length) : l.getD t 0 ∈ l := by
  rw [List.getD_eq_getElem?_getD, List.getElem?_eq_getElem h]; exact List.getElem_mem h

theorem rank_rows (w0 w : World) (cb D L G : Nat) (v : Value) (β : Nat → Nat) (hC : CodeAt w0 w cb D L G v β) (hD : D ≤ 12) (l : List Nat) (hl : ∀ i ∈ l, i < D + L + G) (hln : l.length ≤ 16) (va : Option Addr) (vb vc : Nat)
    (hva : 0 < l.length → va = some ⟨vb, 0, none⟩) (hvr : Row w vb 0 l.length (fun t => .slice (some ⟨β (l.getD t 0), 0, none⟩) D D)) :
    Calls Tryz.prog 87 #[.slice va l.length vc] w fun e w' => e = .returned (I (rankL D (codeM D L) l)) ∧ Below w.heap.size w w' := by
  rw [← rankL_of D (codeM D L) β l]
  exact rank_any va vb 0 l.length vc (rowsS D (codeM D L) β l) w hva hvr.rd (fun i hi => hC.gm.ok (by omega) (hl _ (getD_mem hi))) (by omega)
theorem left_lt {N x i : Nat} (h : i ∈ left N x) : i < N := (mem_sel.1 h).1

theorem below_drew (w : World) : Below w.heap.size w w.drew := ⟨rfl, rfl, rfl, Nat.le_refl _, fun _ _ => rfl⟩

set_option maxHeartbeats 1000000 in
theorem decodable_any (w0 : World) (cb D L G x : Nat) (v : Value) (β : Nat → Nat) (w : World) (hC : CodeAt w0 w cb D L G v β) (hR : Right D L G) (hx : x < 2 ^ 64) :
    Calls Tryz.prog 68 #[.pointer (some ⟨cb, 0, none⟩), U x] w fun e w' => e = .returned (.bool (decB D L G x)) ∧ Below w.heap.size w w' := by
  have HC := Lib.hid hC
  have hcb : cb < w.heap.size := hC.kd.lt
  have c0 : w.cell? ⟨cb, 0, none⟩ = some (I D) := hC.par.cell 0 (by omega)
  have hD12 := hR.d2
  have HN16 := Lib.hid hR.sum
  have HR := Lib.hid hR
  have HX := Lib.hid (u64_not x hx)
  have HY := Lib.hid (left_eq (N := D + L + G) hR.sum hx)
  have hx' : 2 ^ 64 - (x + 1) < 2 ^ 64 := by omega
  have hy : (2 ^ 64 - (x + 1)) % 2 ^ (D + L + G) < 2 ^ 64 := Nat.lt_of_le_of_lt (Nat.mod_le _ _) hx'
  have HE := Lib.hid (show decB D L G x = (rankL D (codeM D L) (left (D + L + G) x) == (D : Int)) from rfl)
  generalize hyv : (2 ^ 64 - (x + 1)) % 2 ^ (D + L + G) = y at *
  generalize hxv : 2 ^ 64 - (x + 1) = x' at *
  have HYV := Lib.hid hyv
  clear hC hR hyv hxv
  have HB0 := Lib.hid (below_drew w)
  go_enter Tryz.func68, Tryz.ntmps68
  go_wp2_with fail
  go_region_with (first | (go_at_call 89; rw [HX.out]; refine (whole_any w0 cb D L G x' v β _ (HC.out.later HB0.out) HR.out hx').mono ?_; rintro e w1 ⟨rfl, hb⟩; rw [HYV.out]; have HB1 := Lib.hid (HB0.out.trans (hb.mono (Nat.le_refl _))); have c01 : w1.cell? ⟨cb, 0, none⟩ = some (I D) := (HB1.out.cell (p := ⟨cb, 0, none⟩) hcb).trans c0; clear hb) | (go_at_call 88; refine (of_any w0 cb D L G y v β _ (HC.out.later HB1.out) HR.out hy).mono ?_; rintro e w2 ⟨vo, rfl, hvo, hb⟩; rw [HY.out] at hvo; obtain ⟨va, vb, vc, rfl, hva, hvr, _, _, _⟩ := hvo.shape; have HB2 := Lib.hid (HB1.out.trans (hb.mono HB1.out.size)); have HRK := Lib.hid (rank_rows w0 w2 cb D L G v β (HC.out.later HB2.out) hD12 (left (D + L + G) x) (fun i => left_lt) (Nat.le_trans (sel_len _ _) HN16.out) va vb vc hva hvr); have c02 : w2.cell? ⟨cb, 0, none⟩ = some (I D) := (HB2.out.cell (p := ⟨cb, 0, none⟩) hcb).trans c0; clear hb hva hvr hvo) | (go_at_call 87; refine HRK.out.mono ?_; rintro e w3 ⟨rfl, hb⟩; have HB3 := Lib.hid (HB2.out.trans (hb.mono HB2.out.size)); have c03 : w3.cell? ⟨cb, 0, none⟩ = some (I D) := (HB3.out.cell (p := ⟨cb, 0, none⟩) hcb).trans c0; clear hb))
  all_goals (go_wp2_with fail; go_ret; exact ⟨by rw [HE.out]; rfl, HB3.out⟩)
end Go.Proofs.YtgelingkifafeaaGreatDoor
