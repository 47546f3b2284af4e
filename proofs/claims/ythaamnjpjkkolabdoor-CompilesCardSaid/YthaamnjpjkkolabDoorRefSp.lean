import Derived.Test.YthaamnjpjkkolabDoorDecR
import Derived.Test.YthaamnjpjkkolabDoorCompP
/- The reference's count and spans. -/
namespace Go.Proofs.YthaamnjpjkkolabDoor
open Go.RowKit Go.Proofs Lin
set_option maxRecDepth 100000
set_option linter.unusedVariables false

theorem sel_half (s m : Nat) : (sel (m + 1) s.testBit).length = s % 2 + (sel m (s / 2).testBit).length := by
  unfold sel
  have e : (s.testBit ∘ Nat.succ) = (s / 2).testBit := by funext i; simp [Nat.testBit_succ]
  rw [List.range_succ_eq_map, List.filter_cons, List.filter_map, e]
  by_cases h : s.testBit 0 = true
  · rw [if_pos h, List.length_cons, List.length_map]
    have : s % 2 = 1 := by simpa [Nat.testBit_zero] using h
    omega
  · rw [if_neg h, List.length_map]
    have : s % 2 = 0 := by have := h; rw [Nat.testBit_zero] at this; simp at this; omega
    omega
theorem and_one (s : Nat) (hs : s < 2 ^ 64) : bits BinOp.and IntKind.u64 (s : Int) 1 = ((s % 2 : Nat) : Int) := by
  have h := u64_and_nat s 1 hs (by omega)
  rwa [Nat.and_one_is_mod] at h

set_option maxHeartbeats 400000 in
theorem refCount_any (s m : Nat) (hs : s < 2 ^ m) (hm : m ≤ 62) (w : World) :
    Calls Tryd.prog 42 #[U s] w fun e w' => e = .returned (I ((sel m s.testBit).length : Nat)) ∧ w = w' := by
  have HT := Lib.hid (show 0 + (sel m s.testBit).length = (sel m s.testBit).length by omega)
  have hT : (sel m s.testBit).length ≤ m := sel_len _ _
  generalize htn : (sel m s.testBit).length = T at *
  rw [← htn] at HT
  have HN := Lib.hid htn
  clear htn
  go_enter Tryd.func42, Tryd.ntmps42
  go_wp2_with fail
  go_loopg [0, 3] m (fun g v c wr => ∃ x k q : Nat, g = q ∧ q ≤ 62 ∧ x < 2 ^ q ∧ v = U x ∧ c = I (k : Nat) ∧ k + (sel q x.testBit).length = T ∧ w = wr)
  case atStart => exact ⟨s, 0, m, rfl, hm, hs, rfl, rfl, by rw [← HN.out]; omega, rfl⟩
  case round =>
    obtain ⟨x, k, g, hq, hg, hx, rfl, rfl, hk, rfl⟩ := hrel
    have hq' := hq.symm
    subst hq'
    clear hq
    have HK := Lib.hid hk
    have hk62 : k ≤ 62 := by omega
    have hp : 2 ^ g ≤ 2 ^ 62 := Nat.pow_le_pow_right (by omega) hg
    clear hk
    by_cases h0 : 0 < x
    · obtain ⟨g', rfl⟩ : ∃ g', g = g' + 1 := by
        cases g with
        | zero => omega
        | succ g' => exact ⟨g', rfl⟩
      have HA := Lib.hid (and_one x (by omega))
      have HS := Lib.hid (show (k + x % 2) + (sel g' (x / 2).testBit).length = T by have := sel_half x g'; have := HK.out; omega)
      have HX := Lib.hid (show x / 2 < 2 ^ g' by rw [Nat.pow_succ] at hx; omega)
      have hz2 : x % 2 ≤ 1 := by omega
      generalize x % 2 = z at *
      go_wp2_with fail
      go_roundg g'
      case measure => omega
      case rel => exact ⟨x / 2, k + z, g', rfl, by omega, HX.out, by go_num, by rw [HA.out, IntWalk.wrap64_in (z : Int) ⟨by omega, by omega⟩, IntWalk.wrap64_in ((k : Int) + (z : Int)) ⟨by omega, by omega⟩]; go_num, HS.out, rfl⟩
    · obtain rfl : x = 0 := by omega
      go_wp2_with fail
      go_ret
      have h := HK.out
      have e : sel g (Nat.testBit 0) = [] := by unfold sel; simp
      rw [e] at h
      exact ⟨by rw [← h]; simp, rfl⟩

theorem refRank_rows2 {w0 w : World} {D k : Nat} {v : Value} {M : Mat} {β : Nat → Nat} (hC : Gm w0 w v k D M β) (hD : D ≤ 12) (l : List Nat) (hl : ∀ i ∈ l, i < k) (hln : l.length ≤ 64) (va : Option Addr) (vb vc : Nat)
    (hva : 0 < l.length → va = some ⟨vb, 0, none⟩) (hvr : Row w vb 0 l.length (fun t => .slice (some ⟨β (l.getD t 0), 0, none⟩) D D)) :
    Calls Tryd.prog 60 #[.slice va l.length vc] w fun e w' => e = .returned (I (rankL D M l)) ∧ Below w.heap.size w w' := by
  rw [← rankL_of D M β l]
  exact refRank_any va vb 0 l.length vc (rowsS D M β l) w hva hvr.rd (fun i hi => hC.ok (by omega) (hl _ (getD_mem hi))) (by omega)

/-- The list's end grows by one. -/
theorem vc_snoc {w : World} {b : Nat} {v : Value} {β : Nat → Nat} {D : Nat} {l : List Nat} {k : Nat} (h : Vc w b 28 v (l.length + 1) (fun i => if i < l.length then .slice (some ⟨β (l.getD i 0), 0, none⟩) D D else .slice (some ⟨β k, 0, none⟩) D D)) :
    Vc w b 28 v (l ++ [k]).length (fun t => .slice (some ⟨β ((l ++ [k]).getD t 0), 0, none⟩) D D) := by
  rw [List.length_append]
  refine h.congr fun i hi => ?_
  rw [getD_snoc]
  by_cases h : i < l.length
  · rw [if_pos h, if_pos h]
  · rw [if_neg h, if_neg h, if_pos (by omega)]

set_option maxHeartbeats 1000000 in
theorem refSpans_any (w0 w : World) (D L N x r : Nat) (v : Value) (β : Nat → Nat) (hC : Gm w0 w v N D (codeM D L) β) (hD : D ≤ 12) (hN : N ≤ 16) (hN1 : 1 ≤ N) (hx : x < 2 ^ 64) (hr : r < 2 ^ 64) :
    Calls Tryd.prog 43 #[v, U x, U r] w fun e w' => e = .returned (.bool (spB D L N x r)) ∧ Below w.heap.size w w' := by
  obtain ⟨va, vb, vc, rfl, hva, hvr, _, _, _⟩ := hC.vc.shape
  obtain rfl := hva (by omega)
  have HG := Lib.hid hC
  have HM := Lib.hid hvr.rd
  have HE := Lib.hid (show spB D L N x r = (rankL D (codeM D L) (sel N r.testBit ++ sel N x.testBit) == rankL D (codeM D L) (sel N r.testBit)) from rfl)
  have hl1 : (sel N r.testBit).length ≤ 16 := Nat.le_trans (sel_len _ _) hN
  have hl2 : (sel N x.testBit).length ≤ 16 := Nat.le_trans (sel_len _ _) hN
  have HL1 := Lib.hid (show ∀ i ∈ sel N r.testBit, i < N from fun i hi => (mem_sel.1 hi).1)
  have HL2 := Lib.hid (show ∀ i ∈ sel N x.testBit, i < N from fun i hi => (mem_sel.1 hi).1)
  clear hC hvr hva
  go_enter Tryd.func43, Tryd.ntmps43
  go_wp2_with fail
  go_loopg [7, 8] N (fun g v i w2 => ∃ k : Nat, g = N - k ∧ k ≤ N ∧ i = I k ∧ Below w.heap.size w w2 ∧ Vc w2 w.heap.size 28 v (sel k r.testBit).length (fun t => .slice (some ⟨β ((sel k r.testBit).getD t 0), 0, none⟩) D D))
  case atStart => exact ⟨0, rfl, by omega, rfl, Below.refl _ _, Vc.nil _ _ _ _⟩
  case round =>
    obtain ⟨k, rfl, hk, rfl, hb, hv⟩ := hrel
    have HB := Lib.hid hb
    have HV := Lib.hid hv
    have hsz : w.heap.size ≤ wr.heap.size := hb.size
    clear hb hv
    by_cases hlt : k < N
    · have hs := sel_succ k r.testBit
      have hln : (sel k r.testBit).length ≤ k := sel_len _ _
      by_cases hbit : r.testBit k = true
      case neg =>
        have hbit' : r.testBit k = false := by simpa using hbit
        have HS := Lib.hid (show sel (k + 1) r.testBit = sel k r.testBit by rw [hs]; simp [hbit'])
        clear hs
        go_wp2_with (go_at_call 15; refine (refHas_any r k hr (by omega) _).mono ?_; rintro e w2 ⟨rfl, rfl⟩; rw [hbit'])
        go_roundg (N - (k + 1))
        case measure => omega
        case rel => exact ⟨k + 1, rfl, by omega, by go_num, HB.out, by rw [HS.out]; exact HV.out⟩
      case pos =>
        have HS := Lib.hid (show sel (k + 1) r.testBit = sel k r.testBit ++ [k] by rw [hs]; simp [hbit])
        clear hs
        have c1 : wr.cell? ⟨vb, k, none⟩ = some (.slice (some ⟨β k, 0, none⟩) D D) := by have := (HM.out.later HB.out) k hlt; rwa [Nat.zero_add] at this
        go_wp2_with (first | (go_at_call 15; refine (refHas_any r k hr (by omega) _).mono ?_; rintro e w2 ⟨rfl, rfl⟩; rw [hbit]) | (refine wpList_append_one rfl (.tmp 24) (.tmp 29) 24 rfl w.heap.size 28 (.slice none 0 0) 24 Tryd.underlying24 infoBs rfl _ (sel k r.testBit).length _ rfl HV.out (.slice (some ⟨β k, 0, none⟩) D D) _ rfl rfl (by omega) (by omega) hsz ?_; intro v3 w3 hv3 hu3; have HV3 := Lib.hid hv3; have HU3 := Lib.hid hu3; clear hv3 hu3))
        go_roundg (N - (k + 1))
        case measure => omega
        case rel => exact ⟨k + 1, rfl, by omega, by go_num, Below.upd HB.out HU3.out (fun t ht => (HV.out.lt t ht.symm).1) hsz, by rw [HS.out]; exact vc_snoc HV3.out⟩
    · obtain rfl : N = k := by omega
      have HVa := Lib.hid HV.out
      obtain ⟨ra, rb, rc, rfl, hra, hrr, _, _, _⟩ := HV.out.shape
      have hrk := refRank_rows2 (HG.out.later HB.out) hD (sel N r.testBit) HL1.out (by omega) ra rb rc hra hrr
      have HRK := Lib.hid hrk
      clear hra hrr hrk
      obtain ⟨l1, hl1e⟩ : ∃ l1, l1 = sel N r.testBit := ⟨_, rfl⟩
      rw [← hl1e] at HE HV HVa HRK HL1 hl1
      rw [← hl1e]
      clear hl1e HVa
      obtain ⟨wo, rfl⟩ : ∃ wo, wo = wr := ⟨_, rfl⟩
      go_wp2_with (go_at_call 60; refine HRK.out.mono ?_; rintro e w2 ⟨rfl, hb⟩; have HB2 := Lib.hid (HB.out.trans (hb.mono hsz)); have HV2 := Lib.hid (HV.out.later hb); clear hb)
      have hsz2 := HB2.out.size
      clear HB HV HRK hsz
      go_loopg [7, 11] N (fun g v i w3 => ∃ k : Nat, g = N - k ∧ k ≤ N ∧ i = I k ∧ Below w.heap.size w w3 ∧ Vc w3 w.heap.size 28 v (l1 ++ sel k x.testBit).length (fun t => .slice (some ⟨β ((l1 ++ sel k x.testBit).getD t 0), 0, none⟩) D D))
      case atStart => exact ⟨0, rfl, by omega, rfl, HB2.out, by rw [show sel 0 x.testBit = [] from rfl, List.append_nil]; exact HV2.out⟩
      case round =>
        obtain ⟨k, rfl, hk, rfl, hb, hv⟩ := hrel
        have HB := Lib.hid hb
        have HV := Lib.hid hv
        have hsz : w.heap.size ≤ wr.heap.size := hb.size
        clear hb hv HB2 HV2
        by_cases hlt : k < N
        · have hs := sel_succ k x.testBit
          have hln : (l1 ++ sel k x.testBit).length ≤ 32 := by rw [List.length_append]; have := sel_len k x.testBit; omega
          by_cases hbit : x.testBit k = true
          case neg =>
            have hbit' : x.testBit k = false := by simpa using hbit
            have HS := Lib.hid (show sel (k + 1) x.testBit = sel k x.testBit by rw [hs]; simp [hbit'])
            clear hs
            go_wp2_with (go_at_call 15; refine (refHas_any x k hx (by omega) _).mono ?_; rintro e w3 ⟨rfl, rfl⟩; rw [hbit'])
            go_roundg (N - (k + 1))
            case measure => omega
            case rel => exact ⟨k + 1, rfl, by omega, by go_num, HB.out, by rw [HS.out]; exact HV.out⟩
          case pos =>
            have HS := Lib.hid (show l1 ++ sel (k + 1) x.testBit = (l1 ++ sel k x.testBit) ++ [k] by rw [hs]; simp [hbit])
            clear hs
            generalize l1 ++ sel k x.testBit = l2 at *
            have c1 : wr.cell? ⟨vb, k, none⟩ = some (.slice (some ⟨β k, 0, none⟩) D D) := by have := (HM.out.later HB.out) k hlt; rwa [Nat.zero_add] at this
            go_wp2_with (first | (go_at_call 15; refine (refHas_any x k hx (by omega) _).mono ?_; rintro e w3 ⟨rfl, rfl⟩; rw [hbit]) | (refine wpList_append_one rfl (.tmp 43) (.tmp 48) 24 rfl w.heap.size 28 (.slice none 0 0) 24 Tryd.underlying24 infoBs rfl _ l2.length _ rfl HV.out (.slice (some ⟨β k, 0, none⟩) D D) _ rfl rfl (by omega) (by omega) hsz ?_; intro v3 w3 hv3 hu3; have HV3 := Lib.hid hv3; have HU3 := Lib.hid hu3; clear hv3 hu3))
            go_roundg (N - (k + 1))
            case measure => omega
            case rel => exact ⟨k + 1, rfl, by omega, by go_num, Below.upd HB.out HU3.out (fun t ht => (HV.out.lt t ht.symm).1) hsz, by rw [HS.out]; exact vc_snoc HV3.out⟩
        · obtain rfl : N = k := by omega
          obtain ⟨ra, rb, rc, rfl, hra, hrr, _, _, _⟩ := HV.out.shape
          have hrk := refRank_rows2 (HG.out.later HB.out) hD (l1 ++ sel N x.testBit) (fun i hi => by rcases List.mem_append.1 hi with h | h; exact HL1.out i h; exact HL2.out i h) (by rw [List.length_append]; omega) ra rb rc hra hrr
          have HRK := Lib.hid hrk
          clear hra hrr hrk HV
          generalize l1 ++ sel N x.testBit = l2 at *
          generalize rankL D (codeM D L) l2 = r2 at *
          generalize rankL D (codeM D L) l1 = r1 at *
          generalize l2.length = n2 at *
          generalize l1.length = n1 at *
          go_wp2_with (go_at_call 60; refine HRK.out.mono ?_; rintro e w3 ⟨rfl, hb⟩; have HB3 := Lib.hid (HB.out.trans (hb.mono hsz)); clear hb)
          go_ret
          exact ⟨by rw [HE.out, BEq.comm]; rfl, HB3.out⟩
end Go.Proofs.YthaamnjpjkkolabDoor
