import Derived.Test.YthaamnjpjkkolabDoorMaRank
import Derived.Test.YthaamnjpjkkolabDoorMaEnc
import Derived.Test.YthaamnjpjkkolabDoorMaPlain
import Derived.StillTailTactics
/- How a row is made of others: Combine. -/
namespace Go.Proofs.YthaamnjpjkkolabDoor
open Go.RowKit Go.Proofs Lin
set_option maxRecDepth 100000
set_option linter.unusedVariables false

/-- The answer in the making: the first so many pivots are done. -/
def solTo (piv : List Nat) (M : Mat) (R i : Nat) : Vec := fun j => match (piv.take i).idxOf? j with
  | some k => M k R
  | none => 0
theorem solTo_zero (piv : List Nat) (M : Mat) (R : Nat) : solTo piv M R 0 = fun _ => 0 := by funext j; rfl
theorem solTo_end {piv : List Nat} {M : Mat} {R i : Nat} (h : piv.length ≤ i) : solTo piv M R i = fun j => match piv.idxOf? j with | some k => M k R | none => 0 := by
  funext j; unfold solTo; rw [List.take_of_length_le h]
theorem solTo_stay {piv : List Nat} {M : Mat} {R i : Nat} (h : piv.length ≤ i) : solTo piv M R (i + 1) = solTo piv M R i := by
  rw [solTo_end h, solTo_end (by omega)]
theorem solTo_next {piv : List Nat} {M : Mat} {R i : Nat} (hm : piv.Pairwise (· < ·)) (h : i < piv.length) : solTo piv M R (i + 1) = fun j => if j = piv.getD i 0 then M i R else solTo piv M R i j := by
  have e : piv.getD i 0 = piv[i] := by simp [List.getD_eq_getElem?_getD, h]
  rw [e]
  funext j
  unfold solTo
  rw [List.take_succ_eq_append_getElem h]
  by_cases hj : j = piv[i]
  · rw [if_pos hj, hj]
    have : (piv.take i ++ [piv[i]]).idxOf? piv[i] = some i := by
      rw [List.idxOf?_eq_some_iff]
      refine ⟨by simp; omega, by rw [List.getElem_append_right (by simp; omega)]; simp, fun k hk => ?_⟩
      have hki : k < i := hk
      rw [List.getElem_append_left (by simp; omega), List.getElem_take]
      have := List.pairwise_iff_getElem.1 hm k i (by omega) h hki
      simp; omega
    rw [this]
  · rw [if_neg hj]
    have : (piv.take i ++ [piv[i]]).idxOf? j = (piv.take i).idxOf? j := by
      cases hx : (piv.take i).idxOf? j with
      | some k =>
        obtain ⟨h1, h2, h3⟩ := List.idxOf?_eq_some_iff.1 hx
        rw [List.idxOf?_eq_some_iff]
        refine ⟨by simp; simp at h1; omega, by rw [List.getElem_append_left h1]; exact h2, fun q hq => by rw [List.getElem_append_left (by omega)]; exact h3 q hq⟩
      | none =>
        rw [List.idxOf?_eq_none_iff] at hx ⊢
        simp only [List.mem_append, List.mem_singleton, not_or]
        exact ⟨hx, hj⟩
    rw [this]

theorem Encd.mx {w wr : World} {g N W : Nat} {M : Mat} {γ : Nat → Nat} (h : Encd w wr g N W N M γ) : Mx wr g N W γ M :=
  ⟨h.outer.congr fun i hi => by simp [hi], h.row, h.kd, fun i j hi hj e => by
    rcases Nat.lt_trichotomy i j with h1 | h1 | h1
    · have := h.up i j h1 hj; omega
    · exact h1
    · have := h.up j i h1 hi; omega, h.gk⟩

def CombIs (w : World) (R : Nat) (y : Vec) (e : Ending) (w' : World) : Prop :=
  ∃ vb, e = .returned (.tuple #[.slice (some ⟨vb, 0, none⟩) R R, .bool true]) ∧ Rd w' vb 0 R (bs y) ∧ Kd w' vb 5 ∧ Below w.heap.size w w'

set_option maxHeartbeats 4000000 in
theorem combine_any (va : Option Addr) (vb vc tb R D : Nat) (β : Nat → Nat) (rows : Mat) (t : Vec) (w : World) (hva : 0 < R → va = some ⟨vb, 0, none⟩) (hout : Rd w vb 0 R (fun j => .slice (some ⟨β j, 0, none⟩) D D)) (hrow : ∀ j, j < R → Rd w (β j) 0 D (bs (rows j)))
    (ht : Rd w tb 0 D (bs t)) (hD1 : 1 ≤ D) (hD : D ≤ 12) (hR : R ≤ 16)
    (hz : ∀ q, (reduce D (eqM R rows t) R).2.length ≤ q → q < D → (reduce D (eqM R rows t) R).1 q R = 0) :
    Calls Tryd.prog 59 #[.slice va R vc, .slice (some ⟨tb, 0, none⟩) D D] w (CombIs w R (solX D R (eqM R rows t))) := by
  have HVA := Lib.hid hva
  have HO := Lib.hid hout
  have HRW := Lib.hid hrow
  have HT := Lib.hid ht
  have HZ := Lib.hid hz
  have HSX := Lib.hid (show solX D R (eqM R rows t) = fun j => match (reduce D (eqM R rows t) R).2.idxOf? j with | some k => (reduce D (eqM R rows t) R).1 k R | none => 0 from rfl)
  have HRed := Lib.hid (reduced D (eqM R rows t) R)
  clear hva hout hrow ht hz
  have hmk := make_rows (D : Int) (by omega) (by omega)
  have hmb := make_bytes ((R : Int) + 1) (by omega) (by omega)
  have hmb2 := make_bytes (R : Int) (by omega) (by omega)
  rw [show ((R : Int) + 1).toNat = R + 1 by omega] at hmb
  simp only [Int.toNat_natCast] at hmk hmb2
  go_enter Tryd.func59, Tryd.ntmps59
  go_wp2_with fail
  go_loopg [19] D (fun g i wr => ∃ (k : Nat) (γ : Nat → Nat), g = D - k ∧ k ≤ D ∧ i = I k ∧ Encd w wr w.heap.size D (R + 1) k (eqM R rows t) γ)
  case atStart => exact ⟨0, fun _ => 0, rfl, by omega, rfl, Encd.start (Below.refl _ _)⟩
  case round =>
    obtain ⟨k, γ, rfl, hk, rfl, he⟩ := hrel
    have HE := Lib.hid he
    have HBw := Lib.hid he.below
    have hsz : w.heap.size < wr.heap.size := Nat.lt_of_le_of_lt he.gown he.gk.lt
    clear he
    by_cases hlt : k < D
    · have g1 : ∀ ob, (wr.alloc ob).cell? ⟨w.heap.size, k, none⟩ = some (.slice none 0 0) := fun ob => by
        have := (HE.out.outer.alloc ob).cell k hlt
        simpa using this
      have g2 : ∀ ob, (wr.alloc ob).frozen? ⟨w.heap.size, k, none⟩ = false := fun ob => by
        have := (HE.out.outer.alloc ob).free k hlt
        simpa using this
      go_wp2_with fail
      have HU1 := Lib.hid (((Upd.refl (fun t => t = w.heap.size) wr).setCell (a := ⟨w.heap.size, k, none⟩) (fun _ => rfl) (.slice (some ⟨wr.heap.size, 0, none⟩) (R + 1) (R + 1))).alloc (.cells (madeCells #[.int .u8 0] (R + 1)) 5))
      have HR0 : Row ((wr.setCell ⟨w.heap.size, k, none⟩ (.slice (some ⟨wr.heap.size, 0, none⟩) (R + 1) (R + 1))).alloc (.cells (madeCells #[.int .u8 0] (R + 1)) 5)) wr.heap.size 0 (R + 1) (bs (fun _ => 0)) := by
        have := Row.new (wr.setCell ⟨w.heap.size, k, none⟩ (.slice (some ⟨wr.heap.size, 0, none⟩) (R + 1) (R + 1))) (.int .u8 0) (R + 1) 5
        rw [Deep.nblk_setCell] at this
        exact this.congr fun i _ => rfl
      have HR0' := Lib.hid HR0
      clear HR0
      have HGC : ((wr.setCell ⟨w.heap.size, k, none⟩ (.slice (some ⟨wr.heap.size, 0, none⟩) (R + 1) (R + 1))).alloc (.cells (madeCells #[.int .u8 0] (R + 1)) 5)).cell? ⟨w.heap.size, k, none⟩ = some (.slice (some ⟨wr.heap.size, 0, none⟩) (R + 1) (R + 1)) := by
        have := ((HE.out.outer.set hlt (.slice (some ⟨wr.heap.size, 0, none⟩) (R + 1) (R + 1))).alloc (.cells (madeCells #[.int .u8 0] (R + 1)) 5)).cell k hlt
        rw [Nat.zero_add] at this
        simpa using this
      have HGC' := Lib.hid HGC
      clear HGC
      have HN := Lib.hid (fun w2 => HE.out.next (w2 := w2) hlt)
      have HB2 := Lib.hid (show Below w.heap.size w ((wr.setCell ⟨w.heap.size, k, none⟩ (.slice (some ⟨wr.heap.size, 0, none⟩) (R + 1) (R + 1))).alloc (.cells (madeCells #[.int .u8 0] (R + 1)) 5)) from (HBw.out.setCell (Nat.le_refl _) _).alloc (by rw [Deep.nblk_setCell]; omega) _)
      have hz2 : wr.heap.size < ((wr.setCell ⟨w.heap.size, k, none⟩ (.slice (some ⟨wr.heap.size, 0, none⟩) (R + 1) (R + 1))).alloc (.cells (madeCells #[.int .u8 0] (R + 1)) 5)).heap.size := by rw [Deep.nblk_alloc, Deep.nblk_setCell]; omega
      generalize (wr.setCell ⟨w.heap.size, k, none⟩ (.slice (some ⟨wr.heap.size, 0, none⟩) (R + 1) (R + 1))).alloc (.cells (madeCells #[.int .u8 0] (R + 1)) 5) = W2 at *
      clear g1 g2
      obtain ⟨r, hr⟩ : ∃ r, r = wr.heap.size := ⟨_, rfl⟩
      rw [← hr] at HR0' HGC' HN hz2 hsz
      rw [← hr]
      clear hr HE HU1
      go_loopg [31] R (fun g i w3 => ∃ j : Nat, g = R - j ∧ j ≤ R ∧ i = I j ∧ Doing W2 w3 r (R + 1) j (fun _ => 0) (eqM R rows t k))
      case atStart => exact ⟨0, rfl, by omega, rfl, Doing.start HR0'.out⟩
      case round =>
        obtain ⟨j, rfl, hj, rfl, hA⟩ := hrel
        have HA := Lib.hid hA
        have HB3 := Lib.hid (show Below w.heap.size w wr from Below.upd HB2.out hA.upd (fun b e => by have e' : b = r := e; omega) (by omega))
        have hsA := hA.size
        clear hA
        by_cases hlt2 : j < R
        · obtain rfl := HVA.out (by omega)
          have q1 : wr.cell? ⟨vb, j, none⟩ = some (.slice (some ⟨β j, 0, none⟩) D D) := by
            have := (HO.out.later HB3.out) j hlt2; rwa [Nat.zero_add] at this
          have q2 : wr.cell? ⟨w.heap.size, k, none⟩ = some (.slice (some ⟨r, 0, none⟩) (R + 1) (R + 1)) := by
            rw [← HGC'.out]
            exact World.cell?_of_block (a := ⟨w.heap.size, k, none⟩) (HA.out.upd.block _ (by show w.heap.size < _; omega) (by show ¬ w.heap.size = r; omega))
          have q3 : wr.cell? ⟨β j, k, none⟩ = some (B (rows j k)) := by
            have := ((HRW.out j hlt2).later HB3.out) k hlt; rwa [Nat.zero_add] at this
          have q4 : wr.cell? ⟨r, j, none⟩ = some (.int .u8 0) := HA.out.cellAt (by omega)
          have q5 : wr.frozen? ⟨r, j, none⟩ = false := HA.out.freeAt (by omega)
          have HEq := Lib.hid (show ((rows j k).toNat : Int) = ((eqM R rows t k j).toNat : Int) by unfold eqM; rw [if_pos hlt2])
          have i1 : (k : Int) < (D : Int) := by omega
          have i2 : (j : Int) < (R : Int) + 1 := by omega
          have i3 : (j : Int) < ((R + 1 : Nat) : Int) := by omega
          go_wp2_with fail
          go_still_tail 10, mixed
          change wpList _ _ _ _ _ (wr.drewN 1)
          go_wp2_with fail
          go_roundg (R - (j + 1))
          case measure => omega
          case rel => exact ⟨j + 1, rfl, by omega, by go_num, (HA.out.drewN 1).next (by omega) HEq.out⟩
        · obtain rfl : R = j := by omega
          have q2 : wr.cell? ⟨w.heap.size, k, none⟩ = some (.slice (some ⟨r, 0, none⟩) (R + 1) (R + 1)) := by
            rw [← HGC'.out]
            exact World.cell?_of_block (a := ⟨w.heap.size, k, none⟩) (HA.out.upd.block _ (by show w.heap.size < _; omega) (by show ¬ w.heap.size = r; omega))
          have q3 : wr.cell? ⟨tb, k, none⟩ = some (B (t k)) := by
            have := (HT.out.later HB3.out) k hlt; rwa [Nat.zero_add] at this
          have q4 : wr.cell? ⟨r, R, none⟩ = some (.int .u8 0) := HA.out.cellAt (by omega)
          have q5 : wr.frozen? ⟨r, R, none⟩ = false := HA.out.freeAt (by omega)
          have HEq := Lib.hid (show ((t k).toNat : Int) = ((eqM R rows t k R).toNat : Int) by unfold eqM; rw [if_neg (by omega)])
          have i1 : (k : Int) < (D : Int) := by omega
          have i2 : (R : Int) < (R : Int) + 1 := by omega
          have i3 : (R : Int) < ((R + 1 : Nat) : Int) := by omega
          go_wp2_with fail
          go_still_tail 11, mixed
          change wpList _ _ _ _ _ (wr.drewN 1)
          go_wp2_with fail
          have hd := ((HA.out.drewN 1).next (by omega) HEq.out).done
          go_roundg (D - (k + 1))
          case measure => omega
          case rel => exact ⟨k + 1, _, rfl, by omega, by go_num, HN.out _ hd.upd hd.kd hd.row⟩
    · obtain rfl : D = k := by omega
      have HMx := Lib.hid HE.out.mx
      have HOw := Lib.hid HE.out.own
      go_wp2_with (go_at_call 75; refine (reduce_any w.heap.size D (R + 1) R D γ (eqM R rows t) wr HMx.out (by omega) (by omega) (by omega)).mono ?_; rintro e W5 ⟨v5, γ5, rfl, hr5⟩; obtain ⟨pa, pb, pc, rfl, hpa, hpr, _, _, _⟩ := hr5.piv.shape; have HR5 := Lib.hid hr5; have HPA := Lib.hid hpa; have HPR := Lib.hid hpr; clear hr5 hpa hpr)
      have HRdX := Lib.hid HRed.out
      have hpl : (reduce D (eqM R rows t) R).2.length ≤ D := HRed.out.ech.le
      generalize hsx : reduce D (eqM R rows t) R = sx at *
      clear hsx
      obtain ⟨M5, piv⟩ := sx
      simp only at hpl
      have HB5 := Lib.hid (show Below w.heap.size w W5 from Below.upd HBw.out HR5.out.upd (fun b e => by
        rcases e with e | ⟨j, hj, e⟩
        · omega
        · have := HOw.out j hj; omega) (by omega))
      have hgl := HR5.out.mx.gk.lt
      go_loopg [68] D (fun g i wr2 => ∃ k : Nat, g = D - k ∧ k ≤ D ∧ i = I k ∧ Upd (· = W5.heap.size) (W5.alloc (.cells (madeCells #[.int .u8 0] R) 5)) wr2 ∧ KdKept (W5.alloc (.cells (madeCells #[.int .u8 0] R) 5)) wr2 ∧ Row wr2 W5.heap.size 0 R (bs (solTo piv M5 R k)))
      case atStart => exact ⟨0, rfl, by omega, rfl, Upd.refl _ _, KdKept.refl _, by rw [solTo_zero]; exact (Row.new W5 (.int .u8 0) R 5).congr fun i _ => by simp [bs, B]⟩
      case round =>
        obtain ⟨k, rfl, hk, rfl, hu, hkk, hrw⟩ := hrel
        have HU := Lib.hid hu
        have HKK := Lib.hid hkk
        have HRO := Lib.hid hrw
        clear hu hrw hkk
        have hpers : ∀ b, b < W5.heap.size → wr.heap[b]? = W5.heap[b]? := fun b hb => (HU.out.block b (by rw [Deep.nblk_alloc]; omega) (fun e : b = W5.heap.size => by omega)).trans (Deep.blk_alloc_lt _ _ _ hb)
        have HP := Lib.hid hpers
        clear hpers
        by_cases hlt : k < D
        · have q1 : wr.cell? ⟨w.heap.size, k, none⟩ = some (.slice (some ⟨γ5 k, 0, none⟩) (R + 1) (R + 1)) := by
            have := HR5.out.mx.outer.cell k hlt
            rw [Nat.zero_add] at this
            exact (World.cell?_of_block (a := ⟨w.heap.size, k, none⟩) (HP.out _ hgl)).trans this
          have q2 : wr.cell? ⟨γ5 k, R, none⟩ = some (B (M5 k R)) := by
            have := (HR5.out.mx.rows k hlt).cell R (by omega)
            rw [Nat.zero_add] at this
            exact (World.cell?_of_block (a := ⟨γ5 k, R, none⟩) (HP.out _ (HR5.out.mx.kd k hlt).lt)).trans this
          have i1 : (k : Int) < (D : Int) := by omega
          have i2 : (R : Int) < (R : Int) + 1 := by omega
          have i3 : (R : Int) < ((R + 1 : Nat) : Int) := by omega
          by_cases hkp : k < piv.length
          · obtain rfl := HPA.out (by simp only; omega)
            have hpR : piv.getD k 0 < R := by
              have h := (HRdX.out.ech.lead k hkp).2
              have e : piv.getD k 0 = piv[k] := by simp [List.getD_eq_getElem?_getD, hkp]
              rw [e]; exact h
            have q3 : wr.cell? ⟨pb, k, none⟩ = some (I (piv.getD k 0 : Nat)) := by
              have := HPR.out.cell k hkp
              rw [Nat.zero_add] at this
              exact (World.cell?_of_block (a := ⟨pb, k, none⟩) (HP.out _ (World.block_lt_of_cell? _ _ this))).trans this
            have HN := Lib.hid (solTo_next (M := M5) (R := R) HRdX.out.ech.mono hkp)
            generalize piv.getD k 0 = pk at *
            have q4 := HRO.out.cell pk hpR
            have q5 := HRO.out.free pk hpR
            rw [Nat.zero_add] at q4 q5
            have hb1 : decide ((k : Int) < (piv.length : Int)) = true := by simp; omega
            have i4 : (pk : Int) < (R : Int) := by omega
            have i5 : (k : Int) < (piv.length : Int) := by omega
            generalize bs (solTo piv M5 R k) pk = old at *
            go_wp2_with fail
            go_still_tail 11, mixed
            change wpList _ _ _ _ _ (wr.drewN 1)
            go_wp2_with fail
            go_roundg (D - (k + 1))
            case measure => omega
            case rel => exact ⟨k + 1, rfl, by omega, by go_num, (HU.out.drewN 1).setCell (a := ⟨W5.heap.size, pk, none⟩) (fun _ => rfl) _, (HKK.out.drewN 1).set _ _, by
              rw [HN.out]
              exact (Row.set8 (HRO.out.drewN 1) hpR (M5 k R) rfl).congr fun j _ => by
                by_cases e : j = pk
                · subst e; simp [bs]
                · simp [bs, e]⟩
          · have hz := HZ.out k (by simp only; omega) hlt
            simp only at hz
            rw [hz] at q2
            have HN := Lib.hid (solTo_stay (M := M5) (R := R) (show piv.length ≤ k by omega))
            have hb1 : decide ((k : Int) < (piv.length : Int)) = false := by simp; omega
            clear hz
            go_wp2_with fail
            go_roundg (D - (k + 1))
            case measure => omega
            case rel => exact ⟨k + 1, rfl, by omega, by go_num, HU.out, HKK.out, by rw [HN.out]; exact HRO.out⟩
        · obtain rfl : D = k := by omega
          have HEnd := Lib.hid (solTo_end (M := M5) (R := R) hpl)
          go_wp2_with fail
          go_ret2
          refine ⟨W5.heap.size, rfl, ?_, HKK.out _ _ (Kd.new _ _ _), ?_⟩
          · rw [HSX.out, ← HEnd.out]; exact HRO.out.rd
          · exact Below.upd (HB5.out.alloc HB5.out.size _) HU.out (fun b e => by have e' : b = W5.heap.size := e; have := HB5.out.size; omega) (by rw [Deep.nblk_alloc]; have := HB5.out.size; omega)
end Go.Proofs.YthaamnjpjkkolabDoor
