import Derived.Test.YtgelingkifafeaaGreatDoorBu29
import Derived.Test.YtgelingkifafeaaGreatDoorBu46
import Derived.Test.YtgelingkifafeaaGreatDoorBu48
/- The program's Decodable from its params; the reference's. -/
namespace Go.Proofs.YtgelingkifafeaaGreatDoor
open Go.RowKit Go.Proofs Lin
set_option maxRecDepth 100000
set_option linter.unusedVariables false

theorem refRank_rows {w0 w : World} {D k : Nat} {v : Value} {M : Mat} {β : Nat → Nat} (hC : Gm w0 w v k D M β) (hD : D ≤ 12) (l : List Nat) (hl : ∀ i ∈ l, i < k) (hln : l.length ≤ 16) (va : Option Addr) (vb vc : Nat)
    (hva : 0 < l.length → va = some ⟨vb, 0, none⟩) (hvr : Row w vb 0 l.length (fun t => .slice (some ⟨β (l.getD t 0), 0, none⟩) D D)) :
    Calls Tryz.prog 25 #[.slice va l.length vc] w fun e w' => e = .returned (I (rankL D M l)) ∧ Below w.heap.size w w' := by
  rw [← rankL_of D M β l]
  exact refRank_any va vb 0 l.length vc (rowsS D M β l) w hva hvr.rd (fun i hi => hC.ok (by omega) (hl _ (getD_mem hi))) (by omega)

set_option maxHeartbeats 400000 in
theorem refDec_bad (D L G : Int) (x : Nat) (hR : ¬ RightI D L G) (w : World) :
    Calls Tryz.prog 16 #[PV D L G, U x] w fun e w' => e = .returned (.bool false) ∧ Below w.heap.size w w' := by
  have HR := Lib.hid hR
  clear hR
  have HB0 := Lib.hid ((Below.refl w.heap.size w).alloc (Nat.le_refl _) (.cells #[I D, I L, I G] 36))
  go_enter Tryz.func16, Tryz.ntmps16
  go_wp2_with (go_at_call 23; refine (refMatrix_bad D L G HR.out _).mono ?_; rintro e w1 ⟨rfl, hb⟩; have HB1 := Lib.hid (HB0.out.trans (hb.mono (by simp))); clear hb)
  go_ret
  exact ⟨rfl, HB1.out⟩

set_option maxHeartbeats 1000000 in
theorem refDec_ok (D L G x : Nat) (hR : Right D L G) (hx : x < 2 ^ 64) (w : World) :
    Calls Tryz.prog 16 #[PV D L G, U x] w fun e w' => e = .returned (.bool (decB D L G x)) ∧ Below w.heap.size w w' := by
  have h7 := hR.sum
  have hD12 := hR.d2
  have hd1 := hR.d1
  have HR := Lib.hid hR
  clear hR
  have HB0 := Lib.hid ((Below.refl w.heap.size w).alloc (Nat.le_refl _) (.cells #[I D, I L, I G] 36))
  have HP0 := Lib.hid (pcells_new w D L G 36)
  have HE := Lib.hid (show decB D L G x = (rankL D (codeM D L) (left (D + L + G) x) == (D : Int)) from rfl)
  obtain ⟨N, hN⟩ : ∃ N, N = D + L + G := ⟨_, rfl⟩
  rw [← hN] at HE h7
  have HN := Lib.hid hN
  go_enter Tryz.func16, Tryz.ntmps16
  go_wp2_with (go_at_call 23; refine (refMatrix_ok D L G HR.out _).mono ?_; rintro e w1 ⟨v, β, rfl, hg⟩; rw [← HN.out] at hg; obtain ⟨va, vb, vc, rfl, hva, hvr, _, _, _⟩ := hg.vc.shape; have HG := Lib.hid hg; have HM := Lib.hid hvr.rd; have HP := Lib.hid (HP0.out.later (hg.below)); have HB1 := Lib.hid (HB0.out.trans (hg.below.mono (by simp))); obtain rfl := hva (by omega); clear hg hvr hva)
  go_loopg [7, 8] N (fun g v i w2 => ∃ k : Nat, g = N - k ∧ k ≤ N ∧ i = I k ∧ Below w1.heap.size w1 w2 ∧ Vc w2 w1.heap.size 49 v (left k x).length (fun t => .slice (some ⟨β ((left k x).getD t 0), 0, none⟩) D D))
  case atStart => exact ⟨0, rfl, by omega, rfl, Below.refl _ _, Vc.nil _ _ _ _⟩
  case round =>
    obtain ⟨k, rfl, hk, rfl, hb, hv⟩ := hrel
    have HB := Lib.hid hb
    have HV := Lib.hid hv
    have hsz : w1.heap.size ≤ wr.heap.size := hb.size
    clear hb hv
    by_cases hlt : k < N
    · have hs := sel_succ k (fun i => !x.testBit i)
      have hln : (left k x).length ≤ k := sel_len _ _
      by_cases hbit : x.testBit k = true
      · have HS := Lib.hid (show left (k + 1) x = left k x by unfold left; rw [hs]; simp [hbit])
        clear hs
        go_wp2_with (go_at_call 24; refine (refHas_any x k hx (by omega) _).mono ?_; rintro e w2 ⟨rfl, rfl⟩; rw [hbit])
        go_roundg (N - (k + 1))
        case measure => omega
        case rel => exact ⟨k + 1, rfl, by omega, by go_num, HB.out, by rw [HS.out]; exact HV.out⟩
      · have hbit' : x.testBit k = false := by simpa using hbit
        have HS := Lib.hid (show left (k + 1) x = left k x ++ [k] by unfold left; rw [hs]; simp [hbit'])
        clear hs
        have c1 : wr.cell? ⟨vb, k, none⟩ = some (.slice (some ⟨β k, 0, none⟩) D D) := by have := (HM.out.later HB.out) k hlt; rwa [Nat.zero_add] at this
        go_wp2_with (first | (go_at_call 24; refine (refHas_any x k hx (by omega) _).mono ?_; rintro e w2 ⟨rfl, rfl⟩; rw [hbit']) | (refine wpList_append_one rfl (.tmp 29) (.tmp 34) 74 rfl w1.heap.size 49 (.slice none 0 0) 24 Tryz.underlying74 infoBs rfl _ (left k x).length _ rfl HV.out (.slice (some ⟨β k, 0, none⟩) D D) _ rfl rfl (by omega) (by omega) hsz ?_; intro v3 w3 hv3 hu3; have HV3 := Lib.hid hv3; have HU3 := Lib.hid hu3; clear hv3 hu3))
        go_roundg (N - (k + 1))
        case measure => omega
        case rel =>
          refine ⟨k + 1, rfl, by omega, by go_num, Below.upd HB.out HU3.out (fun t ht => (HV.out.lt t ht.symm).1) hsz, ?_⟩
          rw [HS.out, List.length_append]
          refine HV3.out.congr fun i hi => ?_
          rw [getD_snoc]
          by_cases h : i < (left k x).length
          · rw [if_pos h, if_pos h]
          · rw [if_neg h, if_neg h, if_pos (by omega)]
    · obtain rfl : N = k := by omega
      obtain ⟨ra, rb, rc, rfl, hra, hrr, _, _, _⟩ := HV.out.shape
      have hrk := refRank_rows (HG.out.later HB.out) hD12 (left N x) (fun i => left_lt) (Nat.le_trans (sel_len _ _) h7) ra rb rc hra hrr
      have he := HE.out
      clear hra hrr HV HE HG HM
      generalize rankL D (codeM D L) (left N x) = r at hrk he
      generalize (left N x).length = n at *
      have HRK := Lib.hid hrk
      have HE := Lib.hid he
      clear hrk he
      go_wp2_with (go_at_call 25; refine HRK.out.mono ?_; rintro e w2 ⟨rfl, hb⟩; have HB2 := Lib.hid (HB.out.trans (hb.mono hsz)); have c0 : w2.cell? ⟨w.heap.size, 0, none⟩ = some (I D) := (HP.out.later HB2.out) 0 (by omega); clear hb)
      go_ret
      exact ⟨by rw [HE.out]; rfl, HB1.out.trans (HB2.out.mono HB1.out.size)⟩
end Go.Proofs.YtgelingkifafeaaGreatDoor
