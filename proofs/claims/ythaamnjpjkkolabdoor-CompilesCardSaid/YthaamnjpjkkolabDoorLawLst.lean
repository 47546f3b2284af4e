import Derived.Test.YthaamnjpjkkolabDoorCompd
import Derived.Test.YthaamnjpjkkolabDoorMaHeap
/- The law Least: its walk. -/
namespace Go.Proofs.YthaamnjpjkkolabDoor
open Go.RowKit Go.Proofs Lin Go.Shelf
set_option maxRecDepth 100000
set_option linter.unusedVariables false

abbrev Tab (w : World) : Prop := TabAt 1 Lib.deBruijn64tab w

set_option maxHeartbeats 400000 in
theorem least_no (D L G : Int) (x : Nat) (w : World) (hl : Laid w) (hT : Tab w) (hN : ∀ w, Laid w → Tab w → Calls Tryd.prog 24 #[PV D L G, U x] w (CompdNo w)) :
    Calls Tryd.prog 7 #[PV D L G, U x] w (LawTrue w) := by
  have HN := Lib.hid hN
  have HL := Lib.hid hl
  have HT := Lib.hid hT
  clear hN hl hT
  have HB := Lib.hid ((Below.refl w.heap.size w).alloc (Nat.le_refl _) (.cells #[I D, I L, I G] 23))
  go_enter Tryd.func7, Tryd.ntmps7
  go_wp2_with fail
  refine (HN.out _ (HL.out.later HB.out) (tab_later HT.out HB.out)).mono ?_
  rintro e w1 ⟨rfl, hb⟩
  have HB1 := Lib.hid ((HB.out.trans (hb.mono HB.out.size)).alloc (Nat.le_trans HB.out.size hb.size) (.cells #[I 0, .slice none 0 0] 39))
  clear hb HB
  go_wp2_with fail
  go_ret
  exact ⟨rfl, HB1.out⟩

set_option maxHeartbeats 1000000 in
theorem least_yes (D L G x : Nat) (hR : Right D L G) (hx : x < 2 ^ 64) (hd : decB D L G x = true) (w : World) (hl : Laid w) (hT : Tab w) :
    Calls Tryd.prog 7 #[PV D L G, U x] w (LawTrue w) := by
  have h7 := hR.sum
  have HN := Lib.hid (fun w hl hT => compiled_yes D L G x hR hx hd w hl hT)
  have HL := Lib.hid hl
  have HT := Lib.hid hT
  have hro := reads_ok hR.d1 hR.d2 hR.l1 hR.div h7 ((decB_mod D L G x).trans hd)
  have hlo := loaded_prog h7 hro.lt
  have hn16 : (readL D L (D + L + G) (x % 2 ^ (D + L + G))).length ≤ 16 := Nat.le_trans (sel_len _ _) h7
  have HLs := Lib.hid (fun w => refLeast_any D L G x (readL D L (D + L + G) (x % 2 ^ (D + L + G))).length (readsN D L (D + L + G) (x % 2 ^ (D + L + G))) hR hx hn16 hro.lt (apart_and hro) rfl (reads_do hR.d2 h7 hro) (fun s hs ha hc => none_less hR.d1 hR.d2 h7 hro ha hc) w)
  generalize (readL D L (D + L + G) (x % 2 ^ (D + L + G))).length = n at *
  clear hR hd hl hT hro
  generalize readsN D L (D + L + G) (x % 2 ^ (D + L + G)) = r at *
  generalize x % 2 ^ (D + L + G) = y at *
  have HLo := Lib.hid hlo
  clear hlo
  have HB := Lib.hid ((Below.refl w.heap.size w).alloc (Nat.le_refl _) (.cells #[I D, I L, I G] 23))
  have HA := Lib.hid (pcI_new w D L G 23)
  go_enter Tryd.func7, Tryd.ntmps7
  go_wp2_with fail
  refine (HN.out _ (HL.out.later HB.out) (tab_later HT.out HB.out)).mono ?_
  rintro e w1 ⟨⟨v, rfl, hv⟩, hb⟩
  obtain ⟨va, vb, vc, rfl, hst, _, _⟩ := hv.shape
  generalize regsN D L (D + L + G) y = rg at *
  generalize progL D L (D + L + G) y = P at *
  have HBx := Lib.hid (show Below w1.heap.size w1 (w1.alloc (.cells #[I (rg : Nat), .slice va P.length vc] 39)) from (Below.refl _ _).alloc (Nat.le_refl _) _)
  have HB1 := Lib.hid ((HB.out.trans (hb.mono HB.out.size)).trans (HBx.out.mono (Nat.le_trans HB.out.size hb.size)))
  have HA1 := Lib.hid ((HA.out.later hb).later HBx.out)
  have HS1 := Lib.hid (hst.later HBx.out)
  clear hb HB hv hst HA HN
  go_wp2_with fail
  refine (loaded_any va vb 0 P.length vc P rfl (rg : Int) _ HS1.out).mono ?_
  rintro e w2 ⟨rfl, hb⟩
  rw [HLo.out]
  have HB2 := Lib.hid (HB1.out.trans (hb.mono HB1.out.size))
  have HA2 := Lib.hid (HA1.out.later hb)
  have c0 : w2.cell? ⟨w.heap.size, 0, none⟩ = some (I D) := HA2.out 0 (by omega)
  have c1 : w2.cell? ⟨w.heap.size, 1, none⟩ = some (I L) := HA2.out 1 (by omega)
  have c2 : w2.cell? ⟨w.heap.size, 2, none⟩ = some (I G) := HA2.out 2 (by omega)
  clear hb HB1 HA1
  go_wp2_with fail
  refine (theirs_any D L G _).mono ?_
  rintro e w3 ⟨rfl, hb⟩
  have HB3 := Lib.hid ((HB2.out.trans (hb.mono HB2.out.size)).alloc (Nat.le_trans HB2.out.size hb.size) (.cells #[I D, I L, I G] 25))
  clear hb HB2 HA2 c0 c1 c2
  go_wp2_with fail
  refine (HLs.out _).mono ?_
  rintro e w4 ⟨rfl, hb⟩
  have HB4 := Lib.hid (HB3.out.trans (hb.mono HB3.out.size))
  clear hb
  go_wp2_with fail
  go_ret
  exact ⟨by simp, HB4.out⟩

theorem least_walk (D L G : Int) (x : Nat) (hx : x < 2 ^ 64) (w : World) (hl : Laid w) (hT : Tab w) : Calls Tryd.prog 7 #[PV D L G, U x] w (LawTrue w) := by
  by_cases hR : RightI D L G
  · obtain ⟨d, l, g, rfl, rfl, rfl, hR⟩ := hR
    cases hd : decB d l g x with
    | true => exact least_yes d l g x hR hx hd w hl hT
    | false => exact least_no d l g x w hl hT fun w hl hT => compiled_no d l g x hR hx hd w hl hT
  · exact least_no D L G x w hl hT fun w hl _ => compiled_bad D L G x hR w hl
end Go.Proofs.YthaamnjpjkkolabDoor
