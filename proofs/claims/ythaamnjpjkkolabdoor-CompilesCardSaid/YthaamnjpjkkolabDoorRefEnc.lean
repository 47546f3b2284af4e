import Derived.Test.YthaamnjpjkkolabDoorMaEnc
import Derived.Test.YthaamnjpjkkolabDoorMatrix
import Derived.Test.YthaamnjpjkkolabDoorSln
/- The reference's Encode. -/
namespace Go.Proofs.YthaamnjpjkkolabDoor
open Go.RowKit Go.Proofs Lin
set_option maxRecDepth 100000
set_option linter.unusedVariables false

theorem Gm.mr {w wr : World} {v : Value} {k W : Nat} {M : Mat} {β : Nat → Nat} (h : Gm w wr v k W M β) : Mr w wr v k W M β := by
  obtain ⟨a, b, c, hv, ha, hr, hc, hk, _⟩ := h.vc.shape
  exact ⟨h.below, ⟨a, b, c, hv, ha, hr.rd, hk, hc⟩, h.row, h.kd, h.own, h.up⟩

def RefEncIs (w : World) (D L G n : Nat) (S : Nat → Sl) (e : Ending) (w' : World) : Prop :=
  EncP D n S ∧ (∃ v γ, e = .returned (.tuple #[v, I 0]) ∧ Mr w w' v (D + L + G) (S 0).n (encM D L (fun i => (S i).x)) γ) ∨
  ¬ EncP D n S ∧ e = .returned (.tuple #[.slice none 0 0, I 2]) ∧ Below w.heap.size w w'

/-- The row that is worked out: j data shards are in, of the next one k bytes. -/
def mid (D L i j k : Nat) (X : Nat → Nat → UInt8) : Nat → UInt8 := fun t => if t < k then dot (j + 1) (codeM D L i) (fun q => X q t) else dot j (codeM D L i) (fun q => X q t)

set_option maxHeartbeats 4000000 in
theorem refEncode_okN (D L G : Nat) (hR : Right D L G) (a : Option Addr) (b o n c : Nat) (S : Nat → Sl) (w : World) (ha : 0 < n → a = some ⟨b, o, none⟩) (hout : Rd w b o n (fun i => (S i).v)) (hok : ∀ i, i < n → (S i).okn w) (hc : n ≤ c) (hn : n ≤ 1000000) :
    Calls Tryd.prog 25 #[PV D L G, .slice a n c] w (RefEncIs w D L G n S) := by
  have h1 := hR.d1; have h2 := hR.d2; have h7 := hR.sum
  have HN := Lib.hid (refMatrix_ok D L G hR)
  have HO := Lib.hid hout
  have HK := Lib.hid hok
  have HA := Lib.hid ha
  clear hR hout hok ha
  have HB := Lib.hid ((Below.refl w.heap.size w).alloc (Nat.le_refl _) (.cells #[I D, I L, I G] 25))
  have HP := Lib.hid (pcI_new w D L G 25)
  go_enter Tryd.func25, Tryd.ntmps25
  go_wp2_with fail
  refine (HN.out _).mono ?_
  rintro e w1 ⟨v, β, rfl, hg⟩
  have HG := Lib.hid hg
  have HB1 := Lib.hid (HB.out.trans (hg.below.mono HB.out.size))
  have HP1 := Lib.hid (HP.out.later hg.below)
  have a0 : w1.cell? ⟨w.heap.size, 0, none⟩ = some (I D) := HP1.out 0 (by omega)
  have HO1 := Lib.hid (HO.out.later HB1.out)
  have HK1 := Lib.hid (fun i (hi : i < n) => (HK.out i hi).later HB1.out)
  obtain ⟨va, vb, vc, rfl, hva, hvr, hvc, _, _⟩ := hg.vc.shape
  obtain rfl := hva (by omega)
  have HV := Lib.hid hvr
  clear hg HN HB HP HO HK hva hvr
  by_cases hnD : n = D
  · subst hnD
    have hnn : ((n : Int) != (n : Int)) = false := by simp
    obtain rfl := HA.out (by omega)
    have d0 := HO1.out 0 (by omega)
    rw [Nat.add_zero] at d0
    have hm0 : (S 0).n ≤ 140737488355328 := (HK1.out 0 (by omega)).max
    go_wp2_with fail
    go_loopg [9] n (fun g i wr => ∃ k : Nat, g = n - k ∧ k ≤ n ∧ i = I k ∧ EncTo k S ∧ w1 = wr)
    case atStart => exact ⟨0, rfl, by omega, rfl, fun i hi => absurd hi (by omega), rfl⟩
    case round =>
      obtain ⟨k, rfl, hk, rfl, hT, rfl⟩ := hrel
      have HT := Lib.hid hT
      clear hT
      by_cases hlt : k < n
      · have dk := HO1.out k hlt
        have hmk : (S k).n ≤ 140737488355328 := (HK1.out k hlt).max
        by_cases e1 : (S k).n = (S 0).n
        · have t1 := nfalse' e1
          have HE1 := Lib.hid e1
          clear e1
          by_cases e2 : 4096 < (S 0).n
          · go_wp2_with fail
            go_ret2
            exact .inr ⟨fun h => by have := (h.2 0 (by omega)).2; omega, rfl, HB1.out⟩
          · have t2 : decide (4096 < ((S 0).n : Int)) = false := by simp; omega
            go_wp2_with fail
            go_roundg (n - (k + 1))
            case measure => omega
            case rel => exact ⟨k + 1, rfl, by omega, by go_num, HT.out.next HE1.out (by have := HE1.out; omega), rfl⟩
        · have t1 := ntrue' e1
          have HE1 := Lib.hid e1
          clear e1
          go_wp2_with fail
          go_ret2
          exact .inr ⟨fun h => HE1.out (h.2 k hlt).1, rfl, HB1.out⟩
      · obtain rfl : n = k := by omega
        have hW2 := (HT.out 0 (by omega)).2
        have HWn := Lib.hid (fun i (hi : i < n) => (HT.out i hi).1)
        have HSb := Lib.hid (fun i (hi : i < n) (h0 : 0 < (S i).n) => (HK1.out i hi).rd.lt h0)
        obtain ⟨W, hWW⟩ : ∃ W, W = (S 0).n := ⟨_, rfl⟩
        rw [← hWW] at HWn hW2
        clear d0 hm0
        go_wp2_with fail
        rw [← hWW]
        have HWW := Lib.hid hWW
        clear hWW
        have hmb := make_bytes (W : Int) (by omega) (by omega)
        simp only [Int.toNat_natCast] at hmb
        go_loopg [10, 11] (n + L + G) (fun g v i w2 => ∃ (k : Nat) (γ : Nat → Nat), g = n + L + G - k ∧ k ≤ n + L + G ∧ i = I k ∧ Gm w1 w2 v k W (encM n L fun i => (S i).x) γ)
        case atStart => exact ⟨0, fun _ => 0, rfl, by omega, rfl, Gm.start (Below.refl _ _)⟩
        case round =>
          obtain ⟨i, γ, rfl, hi, rfl, hg⟩ := hrel
          have HE := Lib.hid hg
          have hsz1 : w1.heap.size ≤ wr.heap.size := hg.below.size
          clear hg a0
          by_cases hlti : i < n + L + G
          · have hdi : decide ((i : Int) < (n : Int) + (L : Int) + (G : Int)) = true := decide_eq_true (by omega)
            go_wp2_with fail
            have HR0 := Lib.hid (show Row (wr.alloc (.cells (madeCells #[.int .u8 0] W) 5)) wr.heap.size 0 W (bs (fun t => dot 0 (codeM n L i) (fun q => (S q).x t))) from (Row.new wr (.int .u8 0) W 5).congr fun _ _ => rfl)
            have HK0 := Lib.hid (Kd.new wr (madeCells #[.int .u8 0] W) 5)
            have HN := Lib.hid (fun w2 w3 v3 => HE.out.next (ob := .cells (madeCells #[.int .u8 0] W) 5) (w1 := w2) (w3 := w3) (v3 := v3))
            have HVF := Lib.hid (fun w2 => HE.out.vcFill (ob := .cells (madeCells #[.int .u8 0] W) 5) (w1 := w2))
            have HSF := Lib.hid (fun w2 => HE.out.szFill (ob := .cells (madeCells #[.int .u8 0] W) 5) (w1 := w2))
            have HBW := Lib.hid (HE.out.below.alloc hsz1 (.cells (madeCells #[.int .u8 0] W) 5))
            have HM := Lib.hid ((HG.out.row i hlti).later (HE.out.below.alloc hsz1 (.cells (madeCells #[.int .u8 0] W) 5)))
            have hbi : β i < w1.heap.size := (HG.out.kd i hlti).lt
            have hvb : vb < w1.heap.size := HV.out.lt (by omega)
            have hbb : b < w1.heap.size := HO1.out.lt (by omega)
            have hpp : w.heap.size < w1.heap.size := Rd.lt HP1.out (by omega)
            generalize wr.alloc (.cells (madeCells #[.int .u8 0] W) 5) = W2 at *
            obtain ⟨r, hr⟩ : ∃ r, r = wr.heap.size := ⟨_, rfl⟩
            rw [← hr] at HR0 HK0 HN HVF HSF hsz1 ⊢
            clear hr HE
            -- what lies in elder blocks
            have hold : ∀ w3, Upd (· = r) W2 w3 → (∀ p : Addr, p.block < w1.heap.size → w3.cell? p = w1.cell? p) := fun w3 hu p hp =>
              (World.cell?_of_block (a := p) (hu.block _ (Nat.lt_of_lt_of_le hp HBW.out.size) (by show ¬ p.block = r; omega))).trans (HBW.out.cell hp)
            have HOLD := Lib.hid hold
            clear hold
            have q1 : w1.cell? ⟨vb, i, none⟩ = some (.slice (some ⟨β i, 0, none⟩) n n) := by
              have := HV.out.cell i hlti; rwa [Nat.zero_add] at this
            have q0 : w1.cell? ⟨w.heap.size, 0, none⟩ = some (I n) := HP1.out 0 (by omega)
            have HQ1 := Lib.hid q1
            have HQ0 := Lib.hid q0
            clear q1 q0
            go_loopg [13] n (fun g i' w3 => ∃ j : Nat, g = n - j ∧ j ≤ n ∧ i' = I j ∧ Adding W2 w3 r W j (codeM n L i) (fun q => (S q).x))
            case atStart => exact ⟨0, rfl, by omega, rfl, ⟨Upd.refl _ _, KdKept.refl _, HR0.out⟩⟩
            case round =>
              obtain ⟨j, rfl, hj, rfl, hA⟩ := hrel
              have HA := Lib.hid hA
              clear hA
              have p0 : wr.cell? ⟨w.heap.size, 0, none⟩ = some (I n) := (HOLD.out wr HA.out.upd ⟨w.heap.size, 0, none⟩ hpp).trans HQ0.out
              by_cases hlt2 : j < n
              · have HX := Lib.hid (show ∀ t, dot (j + 1) (codeM n L i) (fun q => (S q).x t) = dot j (codeM n L i) (fun q => (S q).x t) ^^^ Gf.mul (codeM n L i j) ((S j).x t) from fun t => dot_succ _ _ _)
                have HD0 := Lib.hid (Doing.start (y := fun t => dot (j + 1) (codeM n L i) (fun q => (S q).x t)) HA.out.row)
                have hcz : w1.cell? ⟨β i, j, none⟩ = some (B (codeM n L i j)) := by
                  have := (HG.out.row i hlti).cell j hlt2; rwa [Nat.zero_add] at this
                have HCZ := Lib.hid hcz
                clear hcz
                generalize codeM n L i j = z at *
                have HZ1 := Lib.hid (show z ≠ 1 → ((z.toNat : Int) != 1) = true from fun h => by have := byte_ne_lit (n := 1) h (by omega); simpa using this)
                go_wp2_with fail
                obtain ⟨wo, rfl⟩ : ∃ wo, wo = wr := ⟨_, rfl⟩
                go_loopg [14] W (fun g i' w3 => ∃ k : Nat, g = W - k ∧ k ≤ W ∧ i' = I k ∧ Doing wo w3 r W k (fun t => dot j (codeM n L i) (fun q => (S q).x t)) (fun t => dot (j + 1) (codeM n L i) (fun q => (S q).x t)))
                case atStart => exact ⟨0, rfl, by omega, rfl, HD0.out⟩
                case round =>
                  obtain ⟨k, rfl, hk, rfl, hD⟩ := hrel
                  have HD := Lib.hid hD
                  have HU := Lib.hid (HA.out.upd.trans hD.upd fun _ e _ => e)
                  clear hD p0
                  by_cases hlt3 : k < W
                  · have r1 : wr.cell? ⟨vb, i, none⟩ = some (.slice (some ⟨β i, 0, none⟩) n n) := (HOLD.out wr HU.out ⟨vb, i, none⟩ hvb).trans HQ1.out
                    have r2 : wr.cell? ⟨β i, j, none⟩ = some (B z) := (HOLD.out wr HU.out ⟨β i, j, none⟩ hbi).trans HCZ.out
                    by_cases hz0 : z = 0
                    · have hn0 : ((z.toNat : Int) != 0) = false := by rw [hz0]; rfl
                      have HZ0 := Lib.hid hz0
                      clear hz0
                      go_wp2_with fail
                      go_roundg (n - (j + 1))
                      case measure => omega
                      case rel =>
                        refine ⟨j + 1, rfl, by omega, by go_num, ⟨HU.out, HA.out.kd.trans HD.out.kd, HD.out.row.congr fun t _ => ?_⟩⟩
                        simp only [bs]
                        by_cases e : t < k
                        · rw [if_pos e]
                        · rw [if_neg e, HX.out, HZ0.out, Gf.zero_mul]; simp
                    · have hn0 : ((z.toNat : Int) != 0) = true := by have := byte_ne_lit (n := 0) hz0 (by omega); simpa using this
                      have r3 : wr.cell? ⟨b, o + j, none⟩ = some (.slice (S j).a (S j).n (S j).c) := (HOLD.out wr HU.out ⟨b, o + j, none⟩ hbb).trans (HO1.out j hlt2)
                      have hSj := HWn.out j hlt2
                      rw [hSj] at r3
                      have haj := (HK1.out j hlt2).addr (by omega)
                      have r4 : wr.cell? ⟨(S j).b, (S j).o + k, none⟩ = some (B ((S j).x k)) := (HOLD.out wr HU.out ⟨(S j).b, (S j).o + k, none⟩ (HSb.out j hlt2 (by omega))).trans ((HK1.out j hlt2).rd k (by omega))
                      rw [haj] at r3
                      have d1 := HD.out.cellAt hlt3
                      have d2 := HD.out.freeAt hlt3
                      have HXk := Lib.hid (HX.out k)
                      clear hSj haj hz0
                      generalize dot j (codeM n L i) (fun q => (S q).x k) = y1 at *
                      by_cases hz1 : z = 1
                      · have hn1 : ((z.toNat : Int) != 1) = false := by rw [hz1]; rfl
                        have HZ1' := Lib.hid hz1
                        clear hz1
                        go_wp2_with fail
                        go_roundg (W - (k + 1))
                        case measure => omega
                        case rel => exact ⟨k + 1, rfl, by omega, by go_num, HD.out.next hlt3 (by rw [HXk.out, HZ1'.out, Gf.one_mul, xor8])⟩
                      · have hn1 := HZ1.out hz1
                        clear hz1
                        go_wp2_with (go_at_call 36; refine (refMul_any z ((S j).x k) _).mono ?_; rintro e w5 ⟨rfl, rfl⟩)
                        go_roundg (W - (k + 1))
                        case measure => omega
                        case rel => exact ⟨k + 1, rfl, by omega, by go_num, HD.out.next hlt3 (by rw [HXk.out, xor8])⟩
                  · obtain rfl : W = k := by omega
                    have hdd : decide ((W : Int) < (W : Int)) = false := by simp
                    go_wp2_with fail
                    go_roundg (n - (j + 1))
                    case measure => omega
                    case rel => exact ⟨j + 1, rfl, by omega, by go_num, ⟨HU.out, HA.out.kd.trans HD.out.kd, HD.out.done.row⟩⟩
              · obtain rfl : n = j := by omega
                have HVC := Lib.hid (HVF.out wr HA.out.upd)
                have hszz := HSF.out wr HA.out.upd
                go_wp2_with (refine wpList_append_one rfl (.tmp 112) (.tmp 114) 24 rfl w1.heap.size 28 (.slice none 0 0) 24 Tryd.underlying24 infoBs rfl _ i _ rfl HVC.out (.slice (some ⟨r, 0, none⟩) W W) _ rfl rfl (by omega) (by omega) hszz ?_; intro v3 w3 hv3 hu3; have HV3 := Lib.hid hv3; have HU3 := Lib.hid hu3; clear hv3 hu3)
                go_roundg (n + L + G - (i + 1))
                case measure => omega
                case rel => exact ⟨i + 1, _, rfl, by omega, by go_num, HN.out _ _ _ HA.out.upd HA.out.row (HA.out.kd _ _ HK0.out) HV3.out HU3.out⟩
          · obtain rfl : n + L + G = i := by omega
            go_wp2_with fail
            go_ret2
            exact .inl ⟨⟨rfl, HT.out⟩, _, _, rfl, HWW.out ▸ (HE.out.mr.mono HB1.out)⟩
  · have hnn : ((n : Int) != (D : Int)) = true := by simp; omega
    go_wp2_with fail
    go_ret2
    exact .inr ⟨fun h => hnD h.1, rfl, HB1.out⟩
theorem refEncode_ok (D L G : Nat) (hR : Right D L G) (a : Option Addr) (b o n c : Nat) (S : Nat → Sl) (w : World) (ha : 0 < n → a = some ⟨b, o, none⟩) (hout : Rd w b o n (fun i => (S i).v)) (hok : ∀ i, i < n → (S i).ok w) (hc : n ≤ c) (hn : n ≤ 1000000) :
    Calls Tryd.prog 25 #[PV D L G, .slice a n c] w (RefEncIs w D L G n S) :=
  refEncode_okN D L G hR a b o n c S w ha hout (fun i hi => (hok i hi).n) hc hn
end Go.Proofs.YthaamnjpjkkolabDoor
