import Derived.Test.YthaamnjpjkkolabDoorDec
import Derived.Test.YthaamnjpjkkolabDoorCompP
/- Are the rows of a set made of those of another one: spans, rankOf. -/
namespace Go.Proofs.YthaamnjpjkkolabDoor
open Go.RowKit Go.Proofs Lin Go.Shelf
set_option maxRecDepth 100000
set_option linter.unusedVariables false

theorem rank_many (w0 w : World) (cb D L G : Nat) (v : Value) (β : Nat → Nat) (hC : CodeAt w0 w cb D L G v β) (hD : D ≤ 12) (l : List Nat) (hl : ∀ i ∈ l, i < D + L + G) (hln : l.length ≤ 64) (va : Option Addr) (vb vc : Nat)
    (hva : 0 < l.length → va = some ⟨vb, 0, none⟩) (hvr : Rd w vb 0 l.length (fun t => .slice (some ⟨β (l.getD t 0), 0, none⟩) D D)) :
    Calls Tryd.prog 68 #[.slice va l.length vc] w fun e w' => e = .returned (I (rankL D (codeM D L) l)) ∧ Below w.heap.size w w' := by
  rw [← rankL_of D (codeM D L) β l]
  exact rank_any va vb 0 l.length vc (rowsS D (codeM D L) β l) w hva hvr (fun i hi => hC.gm.ok (by omega) (hl _ (getD_mem hi))) (by omega)

set_option maxHeartbeats 400000 in
theorem rankOf_any (w0 : World) (cb D L G x : Nat) (v : Value) (β : Nat → Nat) (w : World) (hC : CodeAt w0 w cb D L G v β) (hR : Right D L G) (hx : x < 2 ^ 64) :
    Calls Tryd.prog 71 #[.pointer (some ⟨cb, 0, none⟩), U x] w fun e w' => e = .returned (I (rankL D (codeM D L) (sel (D + L + G) x.testBit))) ∧ Below w.heap.size w w' := by
  have HC := Lib.hid hC
  have HR := Lib.hid hR
  have hD := hR.d2
  have HN := Lib.hid (Nat.le_trans (sel_len (D + L + G) x.testBit) hR.sum)
  have HL := Lib.hid (show ∀ i ∈ sel (D + L + G) x.testBit, i < D + L + G from fun i hi => (mem_sel.1 hi).1)
  have HX := Lib.hid (fun w (h : CodeAt w0 w cb D L G v β) => of_any w0 cb D L G x v β w h HR.out hx)
  unfold OfEnd at HX
  generalize sel (D + L + G) x.testBit = l at *
  clear hC hR
  go_enter Tryd.func71, Tryd.ntmps71
  go_wp2_with fail
  refine (HX.out _ HC.out).mono ?_
  rintro e w1 ⟨vo, rfl, hvo, hb⟩
  obtain ⟨va, vb, vc, rfl, hva, hvr, _, _, _⟩ := hvo.shape
  have HB := Lib.hid hb
  have HK := Lib.hid (rank_many w0 w1 cb D L G v β (HC.out.later hb) hD l HL.out (by have := HN.out; omega) va vb vc hva hvr.rd)
  clear hb hvo hva hvr
  go_wp2_with fail
  refine HK.out.mono ?_
  rintro e w2 ⟨rfl, hb⟩
  have HB2 := Lib.hid (HB.out.trans (hb.mono HB.out.size))
  clear hb
  go_wp2_with fail
  go_ret
  exact ⟨rfl, HB2.out⟩

theorem getD_append (l m : List Nat) (i : Nat) : (l ++ m).getD i 0 = if i < l.length then l.getD i 0 else m.getD (i - l.length) 0 := by
  simp only [List.getD_eq_getElem?_getD]
  by_cases h : i < l.length
  · rw [if_pos h, List.getElem?_append_left h]
  · rw [if_neg h, List.getElem?_append_right (by omega)]

set_option maxHeartbeats 1000000 in
theorem spans_any (w0 : World) (cb D L G x r : Nat) (v : Value) (β : Nat → Nat) (w : World) (hC : CodeAt w0 w cb D L G v β) (hR : Right D L G) (hx : x < 2 ^ 64) (hr : r < 2 ^ 64) :
    Calls Tryd.prog 72 #[.pointer (some ⟨cb, 0, none⟩), U x, U r] w fun e w' => e = .returned (.bool (spB D L (D + L + G) x r)) ∧ Below w.heap.size w w' := by
  have HC := Lib.hid hC
  have HR := Lib.hid hR
  have hD := hR.d2
  have HN := Lib.hid (Nat.le_trans (sel_len (D + L + G) x.testBit) hR.sum)
  have HN' := Lib.hid (Nat.le_trans (sel_len (D + L + G) r.testBit) hR.sum)
  have HE := Lib.hid (show spB D L (D + L + G) x r = (rankL D (codeM D L) (sel (D + L + G) r.testBit ++ sel (D + L + G) x.testBit) == rankL D (codeM D L) (sel (D + L + G) r.testBit)) from rfl)
  have HX := Lib.hid (fun w (h : CodeAt w0 w cb D L G v β) => of_any w0 cb D L G x v β w h HR.out hx)
  have HL := Lib.hid (show ∀ i ∈ sel (D + L + G) x.testBit, i < D + L + G from fun i hi => (mem_sel.1 hi).1)
  have HL' := Lib.hid (show ∀ i ∈ sel (D + L + G) r.testBit, i < D + L + G from fun i hi => (mem_sel.1 hi).1)
  have HXr := Lib.hid (fun w (h : CodeAt w0 w cb D L G v β) => of_any w0 cb D L G r v β w h HR.out hr)
  unfold OfEnd at HX HXr
  generalize spB D L (D + L + G) x r = sb at *
  generalize sel (D + L + G) r.testBit = l at *
  generalize sel (D + L + G) x.testBit = m at *
  clear hC hR
  go_enter Tryd.func72, Tryd.ntmps72
  go_wp2_with fail
  refine (HXr.out _ HC.out).mono ?_
  rintro e w1 ⟨vo, rfl, hvo, hb⟩
  have HV := Lib.hid hvo
  obtain ⟨va, vb, vc, rfl, hva, hvr, _, _, _⟩ := hvo.shape
  have HB := Lib.hid hb
  have HK := Lib.hid (rank_many w0 w1 cb D L G v β (HC.out.later hb) hD l HL'.out (by have := HN'.out; omega) va vb vc hva hvr.rd)
  clear hb hvo hva hvr
  go_wp2_with fail
  refine HK.out.mono ?_
  rintro e w2 ⟨rfl, hb⟩
  have HB2 := Lib.hid (HB.out.trans (hb.mono HB.out.size))
  have HV2 := Lib.hid (HV.out.later hb)
  clear hb
  go_wp2_with fail
  refine (HX.out _ (HC.out.later HB2.out)).mono ?_
  rintro e w3 ⟨vo2, rfl, hvo2, hb⟩
  obtain ⟨va2, vb2, vc2, rfl, hva2, hvr2, _, _, _⟩ := hvo2.shape
  have HB3 := Lib.hid (HB2.out.trans (hb.mono HB2.out.size))
  have HV3 := Lib.hid (HV2.out.later hb)
  have HA2 := Lib.hid hva2
  have HR2 := Lib.hid hvr2.rd
  clear hb hvo2 hva2 hvr2
  go_wp2_with (
    refine wpList_append_vc rfl (.tmp 14) (.tmp 17) 97 rfl w.heap.size 28 (.slice none 0 0) 24 Tryd.underlying97 infoBs rfl _ l.length _ rfl HV3.out va2 m.length vc2 vb2 0 _ rfl HA2.out HR2.out (fun _ _ => rfl) (by have := HN.out; have := HN'.out; omega) (by omega) HB3.out.size ?_
    intro v4 w4 hv4 hu4
    obtain ⟨va4, vb4, vc4, rfl, hva4, hvr4, _, _, _⟩ := hv4.shape
    have HB4 := Lib.hid (HB3.out.trans (hu4.below (fun b e => (HV3.out.lt b e.symm).1) HB3.out.size))
    have HK4 := Lib.hid (rank_many w0 w4 cb D L G v β (HC.out.later HB4.out) hD (l ++ m) (fun i hi => by rcases List.mem_append.1 hi with h | h; exact HL'.out i h; exact HL.out i h) (by have := HN.out; have := HN'.out; rw [List.length_append]; omega) va4 vb4 vc4 (by rw [List.length_append]; exact hva4)
      (by rw [List.length_append]; exact hvr4.rd.congr fun i hi => by
            rw [getD_append]
            by_cases h : i < l.length
            · rw [if_pos h, if_pos h]
            · rw [if_neg h, if_neg h]))
    rw [List.length_append] at HK4
    clear hv4 hu4 hva4 hvr4)
  refine HK4.out.mono ?_
  rintro e w5 ⟨rfl, hb⟩
  have HB5 := Lib.hid (HB4.out.trans (hb.mono HB4.out.size))
  clear hb
  go_wp2_with fail
  go_ret
  exact ⟨by rw [HE.out]; rfl, HB5.out⟩
end Go.Proofs.YthaamnjpjkkolabDoor
