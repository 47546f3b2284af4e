import Derived.Test.YthaamnjpjkkolaaDoorNewW
import Derived.Test.YthaamnjpjkkolaaDoorMatrix
import Derived.Test.YthaamnjpjkkolaaDoorSameAll
import Derived.Test.YthaamnjpjkkolaaDoorTell
import Derived.Test.YthaamnjpjkkolaaDoorNum
import Derived.Test.YthaamnjpjkkolaaDoorRws
import Derived.WalkSpells
/- The law Matrices: its walk. -/
namespace Go.Proofs.YthaamnjpjkkolaaDoor
open Go.RowKit Go.Proofs Lin
set_option maxRecDepth 100000
set_option linter.unusedVariables false

theorem Gm.of {w wr : World} {v : Value} {k W : Nat} {M : Mat} {β : Nat → Nat} (h : Gm w wr v k W M β) : ∃ a b c, v = .slice a k c ∧ (0 < k → a = some ⟨b, 0, none⟩) ∧ Rd wr b 0 k (fun j => .slice (some ⟨β j, 0, none⟩) W W) ∧ (0 < k → Kd wr b 37) ∧ k ≤ c := by
  obtain ⟨a, b, c, hv, ha, hr, hc, hk, _⟩ := h.vc.shape
  exact ⟨a, b, c, hv, ha, hr.rd, fun h0 => (hk h0).2, hc⟩
theorem Gm.laterB {w wr w1 : World} {v : Value} {k W : Nat} {M : Mat} {β : Nat → Nat} (h : Gm w wr v k W M β) (hb : Below wr.heap.size wr w1) : Gm w w1 v k W M β := h.later hb

/-- Two matrices that were made one behind the other are twins. -/
theorem twin_of {w w1 w3 w4 : World} {v v' : Value} {k W : Nat} {M : Mat} {β γ : Nat → Nat} (h : Gm w w1 v k W M β) (h13 : Below w1.heap.size w1 w3) (h' : Gm w3 w4 v' k W M γ) :
    ∃ a a' b b' c c', v = .slice a k c ∧ v' = .slice a' k c' ∧ Twin w4 a a' b b' k W β γ M := by
  have h4 := h.later (h13.trans (h'.below.mono h13.size))
  obtain ⟨a, b, c, rfl, ha, hr, hk, _⟩ := h4.of
  obtain ⟨a', b', c', rfl, ha', hr', hk', _⟩ := h'.of
  refine ⟨a, a', b, b', c, c', rfl, rfl, ha, ha', hr, hr', h4.row, fun i hi => (h'.row i hi).rd, h4.kd, hk, hk', h.up, fun i hi j hj e => ?_⟩
  have h1 := h'.own i hi
  have h2 := (h.kd j hj).lt
  have := h13.size
  omega

def MatOk (w : World) (D L G : Nat) (e : Ending) (w' : World) : Prop := ∃ v β, e = .returned (.tuple #[v, .nilIface]) ∧ Gm w w' v (D + L + G) D (codeM D L) β
def MatBad (w : World) (e : Ending) (w' : World) : Prop := e = .returned (.tuple #[.slice none 0 0, .iface 28 (I 1)]) ∧ Below w.heap.size w w'

set_option maxHeartbeats 400000 in
theorem sMatrix_ok (D L G : Nat) (hR : Right D L G) (w : World) : Calls Tryd.prog 16 #[PV D L G] w (MatOk w D L G) := by
  have HN := Lib.hid (new_ok D L G hR)
  clear hR
  have HB := Lib.hid ((Below.refl w.heap.size w).alloc (Nat.le_refl _) (.cells #[I D, I L, I G] 46))
  go_enter Tryd.func16, Tryd.ntmps16
  go_wp2_with (go_at_call 33; refine (HN.out _).mono ?_; rintro e w1 ⟨cb, v, β, rfl, hc⟩; have HC := Lib.hid hc; have c3 : w1.cell? ⟨cb, 3, none⟩ = some v := hc.at3.cell 0 (by omega); clear hc)
  go_ret2
  exact ⟨_, _, rfl, HC.out.gm.mono HB.out⟩

set_option maxHeartbeats 400000 in
theorem sMatrix_bad (D L G : Int) (hR : ¬ RightI D L G) (w : World) : Calls Tryd.prog 16 #[PV D L G] w (MatBad w) := by
  have HN := Lib.hid (new_bad D L G hR)
  clear hR
  have HB := Lib.hid ((Below.refl w.heap.size w).alloc (Nat.le_refl _) (.cells #[I D, I L, I G] 46))
  go_enter Tryd.func16, Tryd.ntmps16
  go_wp2_with (go_at_call 33; refine (HN.out _).mono ?_; rintro e w1 ⟨rfl, hb⟩; have HB1 := Lib.hid (HB.out.trans (hb.mono HB.out.size)); clear hb)
  go_ret2
  exact ⟨rfl, HB1.out⟩

set_option maxHeartbeats 1000000 in
theorem matrices_ok (D L G : Nat) (hR : Right D L G) (w : World) :
    Calls Tryd.prog 5 #[PV D L G] w (LawTrue w) := by
  have h2 := hR.d2; have h7 := hR.sum
  have HM := Lib.hid (fun w => sMatrix_ok D L G hR w)
  have HX := Lib.hid (fun w => refMatrix_ok D L G hR w)
  clear hR
  have HB0 := Lib.hid ((Below.refl w.heap.size w).alloc (Nat.le_refl _) (.cells #[I D, I L, I G] 46))
  have HP0 := Lib.hid (pcI_new w D L G 46)
  go_enter Tryd.func5, Tryd.ntmps5
  go_wp2_with fail
  refine (HM.out _).mono ?_
  rintro e w1 ⟨v, β, rfl, hg⟩
  have HG := Lib.hid hg
  have HB1 := Lib.hid (HB0.out.trans (hg.below.mono HB0.out.size))
  have HP1 := Lib.hid (HP0.out.later hg.below)
  clear hg
  go_wp2_with (first | (go_at_call 8; refine (tell_nil _).mono ?_; rintro e w2 ⟨rfl, hb⟩; have HB2 := Lib.hid (HB1.out.trans (hb.mono HB1.out.size)); have H12 := Lib.hid hb; have hp := HP1.out.later hb; have a0 : w2.cell? ⟨w.heap.size, 0, none⟩ = some (I D) := hp 0 (by omega); have a1 : w2.cell? ⟨w.heap.size, 1, none⟩ = some (I L) := hp 1 (by omega); have a2 : w2.cell? ⟨w.heap.size, 2, none⟩ = some (I G) := hp 2 (by omega); clear hb hp) | (go_at_call 17; refine (theirs_any D L G _).mono ?_; rintro e w3 ⟨rfl, hb⟩; have HB3 := Lib.hid ((HB2.out.trans (hb.mono HB2.out.size)).alloc (HB2.out.trans (hb.mono HB2.out.size)).size (.cells #[I D, I L, I G] 50)); have H13 := Lib.hid ((H12.out.trans (hb.mono H12.out.size)).alloc (H12.out.trans (hb.mono H12.out.size)).size (.cells #[I D, I L, I G] 50)); clear hb))
  refine (HX.out _).mono ?_
  rintro e w4 ⟨v', γ, rfl, hg'⟩
  have HB4 := Lib.hid (HB3.out.trans (hg'.below.mono HB3.out.size))
  obtain ⟨a, a', b, b', c, c', rfl, rfl, ht⟩ := twin_of HG.out H13.out hg'
  have HS := Lib.hid (sameAll_yes a a' b b' (D + L + G) c c' D β γ (codeM D L) w4 ht (by omega) (by omega))
  have HO := Lib.hid HG.out.own
  clear ht hg'
  go_wp2_with (first | (go_at_call 19; refine HS.out.mono ?_; rintro e w5 ⟨rfl, hu⟩; have HB5 := Lib.hid (Below.upd HB4.out hu (fun t ⟨j, hj, e⟩ => by have := HO.out j hj; have := HB0.out.size; omega) HB4.out.size); clear hu) | (go_at_call 11; refine (num_any _ _).mono ?_; rintro e w6 ⟨rfl, rfl⟩))
  go_ret
  exact ⟨by simp, HB5.out⟩

set_option maxHeartbeats 1000000 in
theorem matrices_bad (D L G : Int) (hR : ¬ RightI D L G) (w : World) (hl : Laid w) :
    Calls Tryd.prog 5 #[PV D L G] w (LawTrue w) := by
  have HM := Lib.hid (fun w => sMatrix_bad D L G hR w)
  have HX := Lib.hid (fun w => refMatrix_bad D L G hR w)
  have HL := Lib.hid hl
  clear hR hl
  have HB0 := Lib.hid ((Below.refl w.heap.size w).alloc (Nat.le_refl _) (.cells #[I D, I L, I G] 46))
  have HP0 := Lib.hid (pcI_new w D L G 46)
  have hnn := fun w => Lib.run_eql_slice_nil (P := Tryd.prog) w 47 37 none 0 0 0 0 Tryd.underlying47
  simp only [Option.isNone_none] at hnn
  go_enter Tryd.func5, Tryd.ntmps5
  go_wp2_with fail
  refine (HM.out _).mono ?_
  rintro e w1 ⟨rfl, hb⟩
  have HB1 := Lib.hid (HB0.out.trans (hb.mono HB0.out.size))
  have HP1 := Lib.hid (HP0.out.later hb)
  have HL1 := Lib.hid (HL.out.later HB1.out)
  clear hb
  go_wp2_with (first | (go_at_call 8; refine (tell_errno 1 _ HL1.out).mono ?_; rintro e w2 ⟨rfl, hb⟩; have HB2 := Lib.hid (HB1.out.trans (hb.mono HB1.out.size)); have hp := HP1.out.later hb; have a0 : w2.cell? ⟨w.heap.size, 0, none⟩ = some (I D) := hp 0 (by omega); have a1 : w2.cell? ⟨w.heap.size, 1, none⟩ = some (I L) := hp 1 (by omega); have a2 : w2.cell? ⟨w.heap.size, 2, none⟩ = some (I G) := hp 2 (by omega); clear hb hp) | (go_at_call 17; refine (theirs_any D L G _).mono ?_; rintro e w3 ⟨rfl, hb⟩; have HB3 := Lib.hid ((HB2.out.trans (hb.mono HB2.out.size)).alloc (HB2.out.trans (hb.mono HB2.out.size)).size (.cells #[I D, I L, I G] 50)); clear hb))
  refine (HX.out _).mono ?_
  rintro e w4 ⟨rfl, hb⟩
  have HB4 := Lib.hid (HB3.out.trans (hb.mono HB3.out.size))
  have HS := Lib.hid (sameAll_yes none none 0 0 0 0 0 0 _ _ _ w4 (twin_nil w4) (by omega) (by omega))
  clear hb
  go_wp2_with (first | (go_at_call 19; refine HS.out.mono ?_; rintro e w5 ⟨rfl, hu⟩; have HB5 := Lib.hid (Below.upd HB4.out hu (fun t ⟨j, hj, e⟩ => absurd hj (by omega)) HB4.out.size); clear hu) | (go_at_call 11; refine (num_any _ _).mono ?_; rintro e w6 ⟨rfl, rfl⟩))
  go_ret
  exact ⟨by simp, HB5.out⟩

theorem matrices_walk (D L G : Int) (w : World) (hl : Laid w) : Calls Tryd.prog 5 #[PV D L G] w (LawTrue w) := by
  by_cases h : RightI D L G
  · obtain ⟨d, l, g, rfl, rfl, rfl, hR⟩ := h
    exact matrices_ok d l g hR w
  · exact matrices_bad D L G h w hl
end Go.Proofs.YthaamnjpjkkolaaDoor
