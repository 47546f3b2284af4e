import Derived.Test.YthaamnjpjkkolabDoorNew
/- The program's New: the walk where the params are right. -/
namespace Go.Proofs.YthaamnjpjkkolabDoor
open Go.RowKit Go.Proofs Lin
set_option maxRecDepth 100000
set_option linter.unusedVariables false

theorem codeM_D {D L k j : Nat} (h : k < D) : codeM D L k j = if k = j then 1 else 0 := by unfold codeM; rw [if_pos h]
theorem codeM_L {D L k j : Nat} (h : ¬ k < D) (h' : k < D + L) : codeM D L k j = if D + j / (D / L) = k then 1 else 0 := by unfold codeM; rw [if_neg h, if_pos h']
theorem codeM_G {D L k j : Nat} (h : ¬ k < D) (h' : ¬ k < D + L) : codeM D L k j = Gf.inv (UInt8.ofNat ((k - L) ^^^ j)) := by unfold codeM; rw [if_neg h, if_neg h']

/-- A code, in block cb. -/
structure CodeAt (w wr : World) (cb D L G : Nat) (v : Value) (β : Nat → Nat) : Prop where
  below : Below w.heap.size w wr
  own : w.heap.size ≤ cb
  kd : Kd wr cb 99
  par : Row wr cb 0 3 (pcells D L G)
  at3 : Row wr cb 3 1 (fun _ => v)
  gm : Gm w wr v (D + L + G) D (codeM D L) β

theorem CodeAt.of {w w1 wr : World} {cb D L G : Nat} {v : Value} {β : Nat → Nat} (h : NewIn w1 wr cb (D + L + G) D L G v β) (hb : Below w.heap.size w w1) : CodeAt w wr cb D L G v β :=
  ⟨hb.trans (h.gm.below.mono hb.size), Nat.le_trans hb.size h.own, h.kd, h.par, h.at3, h.gm.mono hb⟩

set_option maxHeartbeats 2000000 in
theorem new_ok (D L G : Nat) (hR : Right D L G) (w : World) :
    Calls Tryd.prog 29 #[PV D L G] w fun e w' => ∃ cb v β, e = .returned (.tuple #[.pointer (some ⟨cb, 0, none⟩), .nilIface]) ∧ CodeAt w w' cb D L G v β := by
  have h1 := hR.d1; have h2 := hR.d2; have h3 := hR.l1; have h4 := hR.l2; have h5 := hR.g2; have h6 := hR.div; have h7 := hR.sum
  have h6' : (D : Int) % (L : Int) = 0 := by have : ((D % L : Nat) : Int) = 0 := by rw [h6]; rfl
                                             simpa using this
  have hs0 : 0 < D / L := Nat.div_pos (Nat.le_of_dvd (by omega) (Nat.dvd_of_mod_eq_zero h6)) (by omega)
  clear hR h6
  have hmb := make_bytes (D : Int) (by omega) (by omega)
  simp only [Int.toNat_natCast] at hmb
  have HP0 := Lib.hid (pcells_new w D L G 23)
  go_enter Tryd.func29, Tryd.ntmps29
  go_upto_region 3 with (go_at_call 44; refine (shards_any D L G (by omega) _).mono ?_; rintro e w1 ⟨rfl, hb⟩; have HB := Lib.hid hb; clear hb)
  have HP1 := Lib.hid (HP0.out.later HB.out)
  have HB1 := Lib.hid (((Below.refl w.heap.size w).alloc (Nat.le_refl _) (.cells #[I D, I L, I G] 23)).trans (HB.out.mono (by simp)))
  clear HB HP0
  have c0 : w1.cell? ⟨w.heap.size, 0, none⟩ = some (I D) := HP1.out 0 (by omega)
  have c1 : w1.cell? ⟨w.heap.size, 1, none⟩ = some (I L) := HP1.out 1 (by omega)
  have c2 : w1.cell? ⟨w.heap.size, 2, none⟩ = some (I G) := HP1.out 2 (by omega)
  have HN0 := Lib.hid (NewIn.start w1 D L G)
  have hcb : w.heap.size < w1.heap.size := Rd.lt HP1.out (by omega)
  clear hmb
  have hmb := make_bytes (D : Int) (by omega) (by omega)
  simp only [Int.toNat_natCast] at hmb
  go_wp2_with (go_at_call 44; refine (shards_any D L G (by omega) _).mono ?_; rintro e w2 ⟨rfl, hb⟩; have HN := Lib.hid (HN0.out.later hb); clear hb)
  clear HN0 c0 c1 c2
  go_loopg [55] (D + L + G) (fun g i w3 => ∃ (k : Nat) (v : Value) (β : Nat → Nat), g = D + L + G - k ∧ k ≤ D + L + G ∧ i = I k ∧ NewIn w1 w3 w1.heap.size k D L G v β)
  case atStart => exact ⟨0, _, _, rfl, by omega, rfl, HN.out⟩
  case round =>
    clear HN
    obtain ⟨k, v, β, rfl, hk, rfl, hN⟩ := hrel
    have HN := Lib.hid hN
    clear hN
    have HPw := Lib.hid (HP1.out.later HN.out.gm.below)
    have c0 : wr.cell? ⟨w.heap.size, 0, none⟩ = some (I D) := HPw.out 0 (by omega)
    by_cases hlt : k < D + L + G
    · have hdec : decide ((k : Int) < (D : Int) + (L : Int) + (G : Int)) = true := decide_eq_true (by omega)
      go_wp2_with fail
      obtain ⟨wo, rfl⟩ : ∃ wo, wo = wr := ⟨_, rfl⟩
      have hwo : w.heap.size < wo.heap.size := Rd.lt HPw.out (by omega)
      go_loopg [63] D (fun g i w3 => ∃ m : Nat, g = D - m ∧ m ≤ D ∧ i = I m ∧ Doing (wo.alloc (.cells (madeCells #[.int .u8 0] D) 5)) w3 wo.heap.size D m (fun _ => 0) (codeM D L k))
      case atStart => exact ⟨0, rfl, by omega, rfl, Doing.start ((Row.new wo (.int .u8 0) D 5).congr fun i _ => by simp [bs, B])⟩
      case round =>
        obtain ⟨m, rfl, hm, rfl, hd⟩ := hrel
        have HD := Lib.hid hd
        clear hd
        have HF := Lib.hid (HN.out.fill HD.out.upd)
        by_cases hlt2 : m < D
        · have HPr := Lib.hid ((HPw.out.alloc (.cells (madeCells #[.int .u8 0] D) 5)).upd HD.out.upd (fun _ => by omega))
          have c0' : wr.cell? ⟨w.heap.size, 0, none⟩ = some (I D) := HPr.out 0 (by omega)
          have c1' : wr.cell? ⟨w.heap.size, 1, none⟩ = some (I L) := HPr.out 1 (by omega)
          have d1 : wr.cell? ⟨wo.heap.size, m, none⟩ = some (.int .u8 0) := HD.out.cellAt hlt2
          have d2 : wr.frozen? ⟨wo.heap.size, m, none⟩ = false := HD.out.freeAt hlt2
          by_cases hkD : k < D
          · by_cases hkm : k = m
            · subst hkm
              have hb0 : ((k : Int) == (k : Int)) = true := by simp
              have HV := Lib.hid (show (1 : Int) = ((codeM D L k k).toNat : Int) by rw [codeM_D hkD, if_pos rfl]; rfl)
              go_wp2_with fail
              go_roundg (D - (k + 1))
              case measure => omega
              case rel => exact ⟨k + 1, rfl, by omega, by go_num, HD.out.next hlt2 HV.out⟩
            · have hb0 : ((k : Int) == (m : Int)) = false := by simp; omega
              have HV := Lib.hid (show codeM D L k m = 0 by rw [codeM_D hkD, if_neg hkm])
              go_wp2_with fail
              go_roundg (D - (m + 1))
              case measure => omega
              case rel => exact ⟨m + 1, rfl, by omega, by go_num, HD.out.skip fun _ => HV.out⟩
          · by_cases hkL : k < D + L
            · obtain ⟨s, hs⟩ : ∃ s, s = D / L := ⟨_, rfl⟩
              obtain ⟨t, ht⟩ : ∃ t, t = m / s := ⟨_, rfl⟩
              have HG := Lib.hid (fun q => group_any w1.heap.size D L G m s t h3 h2 (by omega) hs ht (by omega) (wr.drewN q) (HF.out.2.1.drewN q))
              have HV := Lib.hid (show codeM D L k m = if D + t = k then 1 else 0 by rw [codeM_L hkD hkL, ← hs, ← ht])
              have htm : t ≤ m := ht ▸ Nat.div_le_self _ _
              clear hs ht hs0
              have d1' : ∀ q, (wr.drewN q).cell? ⟨wo.heap.size, m, none⟩ = some (.int .u8 0) := fun _ => d1
              have d2' : ∀ q, (wr.drewN q).frozen? ⟨wo.heap.size, m, none⟩ = false := fun _ => d2
              by_cases htk : D + t = k
              · have hb0 : ((D : Int) + (t : Int) == (k : Int)) = true := by simp; omega
                have HV2 := Lib.hid (show (1 : Int) = ((codeM D L k m).toNat : Int) by rw [HV.out, if_pos htk]; rfl)
                go_wp2_with fail
                go_quiet ((go_at_call 45; exact Calls.quiet_of (HG.out _)))
                go_wp2_with fail
                go_roundg (D - (m + 1))
                case measure => omega
                case rel => exact ⟨m + 1, rfl, by omega, by go_num, (HD.out.drewN _).next hlt2 HV2.out⟩
              · have hb0 : ((D : Int) + (t : Int) == (k : Int)) = false := by simp; omega
                have HV2 := Lib.hid (show codeM D L k m = 0 by rw [HV.out, if_neg htk])
                go_wp2_with fail
                go_quiet ((go_at_call 45; exact Calls.quiet_of (HG.out _)))
                go_wp2_with fail
                go_roundg (D - (m + 1))
                case measure => omega
                case rel => exact ⟨m + 1, rfl, by omega, by go_num, (HD.out.drewN _).skip fun _ => HV2.out⟩
            · have hx0 := i64_xor_nat (k - L) m (by omega) (by omega)
              have hx : bits BinOp.xor IntKind.i64 ((k : Int) - (L : Int)) (m : Int) = (((k - L) ^^^ m : Nat) : Int) := by rw [← hx0, Int.ofNat_sub (by omega)]
              have hx1 : (k - L) ^^^ m < 2 ^ 5 := Nat.xor_lt_two_pow (by omega) (by omega)
              have HI := Lib.hid (codeM_G (j := m) hkD hkL)
              clear hx0
              generalize hy : (k - L) ^^^ m = y at *
              clear hy
              obtain ⟨z, hz⟩ : ∃ z : UInt8, z.toNat = y := ⟨UInt8.ofNat y, by rw [UInt8.toNat_ofNat', Nat.mod_eq_of_lt (by omega)]⟩
              subst hz
              have HI2 := Lib.hid (show Gf.inv z = codeM D L k m by have := HI.out; rw [UInt8.ofNat_toNat] at this; exact this.symm)
              go_wp2_with (go_at_call 46; refine (inv_any z _).mono ?_; rintro e w4 ⟨rfl, rfl⟩)
              go_roundg (D - (m + 1))
              case measure => omega
              case rel => exact ⟨m + 1, rfl, by omega, by go_num, HD.out.next hlt2 (by rw [HI2.out])⟩
        · obtain rfl : D = m := by omega
          have HW := Lib.hid (HD.out.rowTo (fun j h1 h2 => absurd h2 (by omega)))
          have HK := Lib.hid (HD.out.kd _ _ (Kd.new wo (madeCells #[.int .u8 0] D) 5))
          have HU := Lib.hid HD.out.upd
          have HV := Lib.hid (HN.out.gm.vcFill HU.out)
          have hsz := HN.out.gm.szFill HU.out
          have c3 : wr.cell? ⟨w1.heap.size, 3, none⟩ = some v := by have := HF.out.2.2.cell 0 (by omega); simpa using this
          go_wp2_with (refine wpList_append_one rfl (.tmp 112) (.tmp 114) 97 rfl w1.heap.size 28 (.slice none 0 0) 24 Tryd.underlying97 infoBs rfl v k _ rfl HV.out (.slice (some ⟨wo.heap.size, 0, none⟩) D D) _ rfl rfl (by omega) (by omega) hsz ?_; intro v3 w3 hv3 hu3; obtain ⟨va, vb, vc, rfl, hva, _⟩ := hv3.shape; obtain rfl := hva (by omega); have hA := HN.out.app HU.out hu3; have a1 := hA.2.2.cell 0 (by omega); have a2 := hA.2.2.free 0 (by omega); rw [Nat.add_zero] at a1 a2; clear hA; have HV3 := Lib.hid hv3; have HU3 := Lib.hid hu3; clear hv3 hu3)
          go_roundg (D + L + G - (k + 1))
          case measure => omega
          case rel => exact ⟨k + 1, _, _, rfl, by omega, by go_num, HN.out.next HU.out HW.out HK.out HV3.out HU3.out⟩
    · obtain rfl : k = D + L + G := by omega
      go_wp2_with fail
      go_returns
      exact ⟨_, _, _, rfl, CodeAt.of HN.out HB1.out⟩
end Go.Proofs.YthaamnjpjkkolabDoor
