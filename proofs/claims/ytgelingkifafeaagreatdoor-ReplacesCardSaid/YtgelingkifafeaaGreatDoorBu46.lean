import Derived.Test.YtgelingkifafeaaGreatDoorBu11
/- The reference's Matrix. -/
namespace Go.Proofs.YtgelingkifafeaaGreatDoor
open Go.RowKit Go.Proofs Lin
set_option maxRecDepth 100000
set_option linter.unusedVariables false

set_option maxHeartbeats 400000 in
open Classical in
theorem refMatrix_bad (D L G : Int) (h : ¬ RightI D L G) (w : World) :
    Calls Tryz.prog 23 #[PV D L G] w fun e w' => e = .returned (.tuple #[.slice none 0 0, I 1]) ∧ Below w.heap.size w w' := by
  have HN := Lib.hid (show decide (RightI D L G) = false from decide_eq_false h)
  clear h
  go_enter Tryz.func23, Tryz.ntmps23
  go_wp2_with (go_at_call 9; refine (right_any D L G _).mono ?_; rintro e w1 ⟨rfl, hb⟩; rw [HN.out])
  go_returns
  exact ⟨rfl, by have h1 := ((Below.refl w.heap.size w).alloc (Nat.le_refl _) (.cells #[I D, I L, I G] 36)); exact h1.trans (hb.mono (by simp))⟩

set_option maxHeartbeats 2000000 in
open Classical in
theorem refMatrix_ok (D L G : Nat) (hR : Right D L G) (w : World) :
    Calls Tryz.prog 23 #[PV D L G] w fun e w' => ∃ v β, e = .returned (.tuple #[v, I 0]) ∧ Gm w w' v (D + L + G) D (codeM D L) β := by
  have HY := Lib.hid (show decide (RightI D L G) = true from decide_eq_true ⟨D, L, G, rfl, rfl, rfl, hR⟩)
  have h1 := hR.d1; have h2 := hR.d2; have h3 := hR.l1; have h4 := hR.l2; have h5 := hR.g2; have h6 := hR.div; have h7 := hR.sum
  clear hR
  have HL := Lib.hid (fun k j hk hj => codeM_local (k := k) (j := j) h6 h3 h1 hk hj)
  obtain ⟨s, hs⟩ : ∃ s, s = D / L := ⟨_, rfl⟩
  have hs0 : 0 < s := hs ▸ Nat.div_pos (Nat.le_of_dvd (by omega) (Nat.dvd_of_mod_eq_zero h6)) (by omega)
  have hsD : s * L = D := hs ▸ Nat.div_mul_cancel (Nat.dvd_of_mod_eq_zero h6)
  have hs12 : s ≤ D := hs ▸ Nat.div_le_self _ _
  have hq : wrap64 ((D : Int) / (L : Int)) = (s : Int) := by
    have : (D : Int) / (L : Int) = ((D / L : Nat) : Int) := by simp
    rw [this, ← hs]; exact IntWalk.wrap64_in _ ⟨by omega, by omega⟩
  rw [← hs] at HL
  have hq := Lib.hid hq
  clear h6 hs
  have hmb := make_bytes (D : Int) (by omega) (by omega)
  simp only [Int.toNat_natCast] at hmb
  go_enter Tryz.func23, Tryz.ntmps23
  go_wp2_with (go_at_call 9; refine (right_any D L G _).mono ?_; rintro e w1 ⟨rfl, hb⟩; rw [HY.out]; have HP := Lib.hid (MatIn.mk' hb); clear hb)
  clear HY
  go_loopg [5, 6] D (fun g v i w2 => ∃ (k : Nat) (β : Nat → Nat), g = D - k ∧ k ≤ D ∧ i = I k ∧ Gm w1 w2 v k D (codeM D L) β)
  case atStart => exact ⟨0, fun _ => 0, rfl, by omega, rfl, Gm.start (Below.refl _ _)⟩
  case round =>
    obtain ⟨k, β, rfl, hk, rfl, hg⟩ := hrel
    have HG := Lib.hid hg
    clear hg
    have c0 : wr.cell? ⟨w.heap.size, 0, none⟩ = some (I D) := (HP.out.par.later HG.out.below) 0 (by omega)
    by_cases hlt : k < D
    · have d1 : (wr.alloc (.cells (madeCells #[.int .u8 0] D) 5)).cell? ⟨wr.heap.size, k, none⟩ = some (.int .u8 0) := by have := (Row.new wr (.int .u8 0) D 5).cell k hlt; rwa [Nat.zero_add] at this
      have d2 : (wr.alloc (.cells (madeCells #[.int .u8 0] D) 5)).frozen? ⟨wr.heap.size, k, none⟩ = false := by have := (Row.new wr (.int .u8 0) D 5).free k hlt; rwa [Nat.zero_add] at this
      have HU := (Upd.refl (· = wr.heap.size) (wr.alloc (.cells (madeCells #[.int .u8 0] D) 5))).setCell (a := ⟨wr.heap.size, k, none⟩) (fun _ => rfl) (.int .u8 1)
      have HW := (Row.set8 (z := fun _ => 0) ((Row.new wr (.int .u8 0) D 5).congr fun i _ => by simp [bs, B]) hlt 1 (v := 1) (by decide)).congr (g := bs (codeM D L k)) fun i _ => by simp only [bs]; rw [← codeM_data hlt]
      have HK := (Kd.new wr (madeCells #[.int .u8 0] D) 5).set ⟨wr.heap.size, k, none⟩ (.int .u8 1)
      rw [World.setCell_alloc_new] at HU HW HK
      have HU := Lib.hid HU; have HW := Lib.hid HW; have HK := Lib.hid HK
      have HV := Lib.hid (HG.out.vcFill HU.out)
      have hsz := HG.out.szFill HU.out
      go_upto_region 10 with fail
      generalize wr.alloc (.cells ((madeCells #[.int .u8 0] D).setIfInBounds k (.int .u8 1)) 5) = W2 at *
      go_wp2_with (refine wpList_append_one rfl (.tmp 31) (.tmp 33) 74 rfl w1.heap.size 49 (.slice none 0 0) 24 Tryz.underlying74 infoBs rfl _ k _ rfl HV.out (.slice (some ⟨wr.heap.size, 0, none⟩) D D) _ rfl rfl (by omega) (by omega) hsz ?_; intro v3 w3 hv3 hu3; have HV3 := Lib.hid hv3; have HU3 := Lib.hid hu3; clear hv3 hu3)
      go_roundg (D - (k + 1))
      case measure => omega
      case rel => exact ⟨k + 1, _, rfl, by omega, by go_num, HG.out.next HU.out HW.out HK.out HV3.out HU3.out⟩
    · obtain rfl : D = k := by omega
      have c1 : wr.cell? ⟨w.heap.size, 1, none⟩ = some (I L) := (HP.out.par.later HG.out.below) 1 (by omega)
      go_wp2
      rw [hq.out]
      clear hq
      go_loopg [5, 9] L (fun g v i w2 => ∃ (k : Nat) (β : Nat → Nat), g = L - k ∧ k ≤ L ∧ i = I k ∧ Gm w1 w2 v (D + k) D (codeM D L) β)
      case atStart => exact ⟨0, β, rfl, by omega, rfl, HG.out⟩
      case round =>
        obtain ⟨k, β, rfl, hk, rfl, hg⟩ := hrel
        have HG := Lib.hid hg
        clear hg c0 c1
        have c0 : wr.cell? ⟨w.heap.size, 0, none⟩ = some (I D) := (HP.out.par.later HG.out.below) 0 (by omega)
        have c1 : wr.cell? ⟨w.heap.size, 1, none⟩ = some (I L) := (HP.out.par.later HG.out.below) 1 (by omega)
        by_cases hlt : k < L
        · obtain ⟨q, hq⟩ : ∃ q, q = k * s := ⟨_, rfl⟩
          have e1 : (k : Int) * (s : Int) = (q : Int) := by rw [hq]; simp
          have e2 : ((k : Int) + 1) * (s : Int) = (q : Int) + (s : Int) := by rw [Int.add_mul, e1]; simp
          have e3 : q + s ≤ D := by
            have : (k + 1) * s ≤ L * s := Nat.mul_le_mul_right _ (by omega)
            rw [Nat.add_mul] at this; rw [Nat.mul_comm L s] at this; omega
          have HY := Lib.hid (fun j hj => HL.out k j hlt hj)
          rw [← hq] at HY
          clear hq
          go_wp2
          obtain ⟨wo, rfl⟩ : ∃ wo, wo = wr := ⟨_, rfl⟩
          go_loopg [11] s (fun g i w2 => ∃ m : Nat, g = q + s - m ∧ q ≤ m ∧ m ≤ q + s ∧ i = I m ∧ Doing (wo.alloc (.cells (madeCells #[.int .u8 0] D) 5)) w2 wo.heap.size D m (fun _ => 0) (fun j => if q ≤ j ∧ j < q + s then 1 else 0))
          case atStart => exact ⟨q, by omega, by omega, by omega, by go_num, Doing.from ((Row.new wo (.int .u8 0) D 5).congr fun i _ => by simp [bs, B]) fun j hj => by simp; omega⟩
          case round =>
            obtain ⟨m, rfl, hm1, hm2, rfl, hd⟩ := hrel
            have HD := Lib.hid hd
            clear hd
            by_cases hms : m < q + s
            · have d1 : wr.cell? ⟨wo.heap.size, m, none⟩ = some (.int .u8 0) := HD.out.cellAt (by omega)
              have d2 : wr.frozen? ⟨wo.heap.size, m, none⟩ = false := HD.out.freeAt (by omega)
              go_wp2
              go_roundg (q + s - (m + 1))
              case measure => omega
              case rel => exact ⟨m + 1, rfl, by omega, by omega, by go_num, HD.out.next (by omega) (by rw [if_pos ⟨hm1, hms⟩]; rfl)⟩
            · obtain rfl : m = q + s := by omega
              have HW := Lib.hid ((HD.out.rowTo (fun j h1 _ => by simp; omega)).congr (g := bs (codeM D L (D + k))) fun i hi => by simp only [bs]; rw [HY.out i hi])
              have HK := Lib.hid (HD.out.kd _ _ (Kd.new wo (madeCells #[.int .u8 0] D) 5))
              have HU := Lib.hid HD.out.upd
              have HV := Lib.hid (HG.out.vcFill HU.out)
              have hsz := HG.out.szFill HU.out
              go_wp2_with (refine wpList_append_one rfl (.tmp 63) (.tmp 65) 74 rfl w1.heap.size 49 (.slice none 0 0) 24 Tryz.underlying74 infoBs rfl _ (D + k) _ rfl HV.out (.slice (some ⟨wo.heap.size, 0, none⟩) D D) _ rfl rfl (by omega) (by omega) hsz ?_; intro v3 w3 hv3 hu3; have HV3 := Lib.hid hv3; have HU3 := Lib.hid hu3; clear hv3 hu3)
              go_roundg (L - (k + 1))
              case measure => omega
              case rel => exact ⟨k + 1, _, rfl, by omega, by go_num, HG.out.next HU.out HW.out HK.out HV3.out HU3.out⟩
        · obtain rfl : L = k := by omega
          have c2 : wr.cell? ⟨w.heap.size, 2, none⟩ = some (I G) := (HP.out.par.later HG.out.below) 2 (by omega)
          clear HL
          go_wp2
          go_loopg [5, 12] G (fun g v i w2 => ∃ (k : Nat) (β : Nat → Nat), g = G - k ∧ k ≤ G ∧ i = I k ∧ Gm w1 w2 v (D + L + k) D (codeM D L) β)
          case atStart => exact ⟨0, β, rfl, by omega, rfl, HG.out⟩
          case round =>
            obtain ⟨k, β, rfl, hk, rfl, hg⟩ := hrel
            have HG := Lib.hid hg
            clear hg c0 c1 c2
            have c0 : wr.cell? ⟨w.heap.size, 0, none⟩ = some (I D) := (HP.out.par.later HG.out.below) 0 (by omega)
            have c2 : wr.cell? ⟨w.heap.size, 2, none⟩ = some (I G) := (HP.out.par.later HG.out.below) 2 (by omega)
            by_cases hlt : k < G
            · go_wp2
              obtain ⟨wo, rfl⟩ : ∃ wo, wo = wr := ⟨_, rfl⟩
              go_loopg [14] D (fun g i w2 => ∃ m : Nat, g = D - m ∧ m ≤ D ∧ i = I m ∧ Doing (wo.alloc (.cells (madeCells #[.int .u8 0] D) 5)) w2 wo.heap.size D m (fun _ => 0) (codeM D L (D + L + k)))
              case atStart => exact ⟨0, rfl, by omega, rfl, Doing.start ((Row.new wo (.int .u8 0) D 5).congr fun i _ => by simp [bs, B])⟩
              case round =>
                obtain ⟨m, rfl, hm, rfl, hd⟩ := hrel
                have HD := Lib.hid hd
                clear hd
                have c0' : wr.cell? ⟨w.heap.size, 0, none⟩ = some (I D) := by
                  have h1 := ((HP.out.par.later HG.out.below).alloc (.cells (madeCells #[.int .u8 0] D) 5)).upd HD.out.upd (fun _ => by have := ((HP.out.par.later HG.out.below)).lt (by omega); omega)
                  exact h1 0 (by omega)
                by_cases hlt2 : m < D
                · have d1 : wr.cell? ⟨wo.heap.size, m, none⟩ = some (.int .u8 0) := HD.out.cellAt (by omega)
                  have d2 : wr.frozen? ⟨wo.heap.size, m, none⟩ = false := HD.out.freeAt (by omega)
                  have hx0 := i64_xor_nat (D + k) m (by omega) (by omega)
                  have hx : bits BinOp.xor IntKind.i64 ((D : Int) + (k : Int)) (m : Int) = (((D + k) ^^^ m : Nat) : Int) := by rw [← hx0]; simp
                  have hx1 : (D + k) ^^^ m < 2 ^ 5 := Nat.xor_lt_two_pow (by omega) (by omega)
                  clear hx0
                  have HI := Lib.hid (codeM_global (D := D) (L := L) (k := k) (j := m))
                  generalize hy : (D + k) ^^^ m = y at *
                  clear hy
                  obtain ⟨z, hz⟩ : ∃ z : UInt8, z.toNat = y := ⟨UInt8.ofNat y, by rw [UInt8.toNat_ofNat', Nat.mod_eq_of_lt (by omega)]⟩
                  subst hz
                  have HI2 := Lib.hid (show Gf.inv z = codeM D L (D + L + k) m by have := HI.out; rwa [UInt8.ofNat_toNat] at this)
                  go_wp2_with (go_at_call 42; refine (refInv_any z _).mono ?_; rintro e w4 ⟨rfl, rfl⟩)
                  go_roundg (D - (m + 1))
                  case measure => omega
                  case rel => exact ⟨m + 1, rfl, by omega, by go_num, HD.out.next hlt2 (by rw [HI2.out])⟩
                · obtain rfl : D = m := by omega
                  have HW := Lib.hid (HD.out.rowTo (fun j h1 h2 => absurd h2 (by omega)))
                  have HK := Lib.hid (HD.out.kd _ _ (Kd.new wo (madeCells #[.int .u8 0] D) 5))
                  have HU := Lib.hid HD.out.upd
                  have HV := Lib.hid (HG.out.vcFill HU.out)
                  have hsz := HG.out.szFill HU.out
                  go_wp2_with (refine wpList_append_one rfl (.tmp 93) (.tmp 95) 74 rfl w1.heap.size 49 (.slice none 0 0) 24 Tryz.underlying74 infoBs rfl _ (D + L + k) _ rfl HV.out (.slice (some ⟨wo.heap.size, 0, none⟩) D D) _ rfl rfl (by omega) (by omega) hsz ?_; intro v3 w3 hv3 hu3; have HV3 := Lib.hid hv3; have HU3 := Lib.hid hu3; clear hv3 hu3)
                  go_roundg (G - (k + 1))
                  case measure => omega
                  case rel => exact ⟨k + 1, _, rfl, by omega, by go_num, HG.out.next HU.out HW.out HK.out HV3.out HU3.out⟩
            · obtain rfl : G = k := by omega
              go_wp2
              go_returns
              exact ⟨_, _, rfl, HG.out.mono HP.out.below⟩
end Go.Proofs.YtgelingkifafeaaGreatDoor
