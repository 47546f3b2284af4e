import Derived.Test.YthaamnjpjkkolaaDecR
/- The law Decodables: its walk. -/
namespace Go.Proofs.Ythaamnjpjkkolaa
open Go.RowKit Go.Proofs Lin
set_option maxRecDepth 100000
set_option linter.unusedVariables false

open Classical in
/-- Both ways, whatever the params. -/
theorem sDec_any (D L G : Int) (x : Nat) (hx : x < 2 ^ 64) : ∃ b : Bool, (∀ w, Calls Try.prog 21 #[PV D L G, U x] w fun e w' => e = .returned (.bool b) ∧ Below w.heap.size w w') ∧
    ∀ w, Calls Try.prog 22 #[PV D L G, U x] w fun e w' => e = .returned (.bool b) ∧ Below w.heap.size w w' := by
  by_cases h : RightI D L G
  · obtain ⟨d, l, g, rfl, rfl, rfl, hR⟩ := h
    exact ⟨decB d l g x, fun w => sDec_ok d l g x hR hx w, fun w => refDec_ok d l g x hR hx w⟩
  · exact ⟨false, fun w => sDec_bad D L G x h w, fun w => refDec_bad D L G x h w⟩

def pcI (D L G : Int) : Nat → Value := fun i => if i = 0 then I D else if i = 1 then I L else I G
theorem pcI_new (w : World) (D L G : Int) (t : TypeId) : Rd (w.alloc (.cells #[I D, I L, I G] t)) w.heap.size 0 3 (pcI D L G) := by
  intro i hi
  simp only [World.cell?, Nat.zero_add, Deep.blk_alloc_new]
  rcases (show i = 0 ∨ i = 1 ∨ i = 2 by omega) with rfl | rfl | rfl <;> simp [pcI]

set_option maxHeartbeats 400000 in
theorem decodables_walk (D L G : Int) (x : Nat) (hx : x < 2 ^ 64) (w : World) :
    Calls Try.prog 7 #[PV D L G, U x] w (LawTrue w) := by
  obtain ⟨b, h1, h2⟩ := sDec_any D L G x hx
  have H1 := Lib.hid h1
  have H2 := Lib.hid h2
  clear h1 h2
  have HB0 := Lib.hid ((Below.refl w.heap.size w).alloc (Nat.le_refl _) (.cells #[I D, I L, I G] 35))
  have hbb : (b == b) = true := by simp
  go_enter Try.func7, Try.ntmps7
  go_wp2_with (first | (go_at_call 20; refine (theirs_any D L G _).mono ?_; rintro e w1 ⟨rfl, hb⟩; have HB1 := Lib.hid (HB0.out.trans (hb.mono (by simp))); have hp := (pcI_new w D L G 35).later hb; have a0 : w1.cell? ⟨w.heap.size, 0, none⟩ = some (I D) := hp 0 (by omega); have a1 : w1.cell? ⟨w.heap.size, 1, none⟩ = some (I L) := hp 1 (by omega); have a2 : w1.cell? ⟨w.heap.size, 2, none⟩ = some (I G) := hp 2 (by omega); have hs1 := hb.size; rw [Deep.nblk_alloc] at hs1; have hs2 : w.heap.size < w1.heap.size := hs1; have HP1 := Lib.hid (pcI_new w1 D L G 37); clear hb hp) | (go_at_call 21; refine (H1.out _).mono ?_; rintro e w2 ⟨rfl, hb⟩; have HB2 := Lib.hid (HB1.out.trans (((Below.refl w1.heap.size w1).alloc (Nat.le_refl _) (.cells #[I D, I L, I G] 37)).trans (hb.mono (by simp)) |>.mono HB1.out.size)); have hp := HP1.out.later hb; have b0 : w2.cell? ⟨w1.heap.size, 0, none⟩ = some (I D) := hp 0 (by omega); have b1 : w2.cell? ⟨w1.heap.size, 1, none⟩ = some (I L) := hp 1 (by omega); have b2 : w2.cell? ⟨w1.heap.size, 2, none⟩ = some (I G) := hp 2 (by omega); clear hb hp) | (go_at_call 22; refine (H2.out _).mono ?_; rintro e w3 ⟨rfl, hb⟩; have HB3 := Lib.hid (HB2.out.trans (hb.mono HB2.out.size)); clear hb))
  go_ret
  exact ⟨by simp, HB3.out⟩
end Go.Proofs.Ythaamnjpjkkolaa
