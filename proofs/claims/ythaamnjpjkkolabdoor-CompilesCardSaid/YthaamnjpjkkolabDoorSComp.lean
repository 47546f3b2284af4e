import Derived.Test.YthaamnjpjkkolabDoorCompile
import Derived.Test.YthaamnjpjkkolabDoorNewW
/- The entry point Compile. -/
namespace Go.Proofs.YthaamnjpjkkolabDoor
open Go.RowKit Go.Proofs Lin Go.Shelf
set_option maxRecDepth 100000
set_option linter.unusedVariables false

theorem V4.mono {w : World} {b b' e : Nat} {v : Value} {n : Nat} {f : Nat → Nat → Value} (h : V4 w b e v n f) (hb : b' ≤ b) : V4 w b' e v n f := by
  refine ⟨h.1, ?_⟩
  rcases h.2 with h0 | ⟨g, cap, cur, e1, e2, rest⟩
  · exact .inl h0
  · exact .inr ⟨g, cap, cur, e1, Nat.le_trans hb e2, rest⟩
theorem CompIs.mono {w w1 w' : World} {D L G y : Nat} {e : Ending} (h : CompIs w1 D L G y e w') (hb : Below w.heap.size w w1) : CompIs w D L G y e w' := by
  refine ⟨?_, hb.trans (h.2.mono hb.size)⟩
  rcases h.1 with ⟨h1, v, h2, h3⟩ | h0
  · exact .inl ⟨h1, v, h2, h3.mono hb.size⟩
  · exact .inr h0

theorem pairP_new (w : World) (ob : Obj) : Pair ((w.alloc ob).alloc (.cells #[I 0, .slice none 0 0] 39)) (w.heap.size + 1) 39 (I 0) (.slice none 0 0) := by
  have h := Pair.new (w.alloc ob) 39 (I 0) (.slice none 0 0)
  rwa [World.size_alloc] at h

set_option maxHeartbeats 1000000 in
theorem sCompile_ok (D L G x : Nat) (hR : Right D L G) (hx : x < 2 ^ 64) (w : World) (hT : TabAt 1 Lib.deBruijn64tab w) :
    Calls Tryd.prog 22 #[PV D L G, U x] w (CompIs w D L G (x % 2 ^ (D + L + G))) := by
  have HN := Lib.hid (new_ok D L G hR)
  have HE := Lib.hid (fun w0 cb v β w hC hT => compile_any w0 cb D L G x v β w hC hR hx hT)
  have HT := Lib.hid hT
  clear hR hT hx
  have HB := Lib.hid (((Below.refl w.heap.size w).alloc (Nat.le_refl _) (.cells #[I D, I L, I G] 23)).alloc (by simp) (.cells #[I 0, .slice none 0 0] 39))
  have HP := Lib.hid (pairP_new w (.cells #[I D, I L, I G] 23))
  go_enter Tryd.func22, Tryd.ntmps22
  go_wp2_with fail
  refine (HN.out _).mono ?_
  rintro e w1 ⟨cb, v, β, rfl, hC⟩
  have HB1 := Lib.hid (HB.out.trans (hC.below.mono HB.out.size))
  have HX := Lib.hid (HE.out _ cb v β w1 hC (tab_later HT.out HB1.out))
  have HP1 := Lib.hid (HP.out.later hC.below)
  clear hC HN HB HE HP
  go_wp2_with fail
  refine HX.out.mono ?_
  rintro e w2 h
  have HP2 := Lib.hid (HP1.out.later h.2)
  have H := Lib.hid (h.mono HB1.out)
  have HB2 := Lib.hid (HB1.out.trans (h.2.mono HB1.out.size))
  have hsz2 := HB2.out.size
  have p0 := HP2.out.c0; have p1 := HP2.out.c1; have p2 := HP2.out.f0; have p3 := HP2.out.f1
  rcases h.1 with ⟨hd, v', rfl, hv'⟩ | ⟨hd, rfl⟩
  · have HV := Lib.hid (hv'.mono HB1.out.size)
    have HD := Lib.hid hd
    obtain ⟨va, vb, vc, rfl, _⟩ := hv'.shape
    clear h hd hv' H HX
    obtain ⟨rg, hrg⟩ : ∃ rg, rg = regsN D L (D + L + G) (x % 2 ^ (D + L + G)) := ⟨_, rfl⟩
    rw [← hrg]
    have HRG := Lib.hid hrg
    obtain ⟨P, hP⟩ : ∃ P, P = progL D L (D + L + G) (x % 2 ^ (D + L + G)) := ⟨_, rfl⟩
    rw [← hP] at HV ⊢
    have HPq := Lib.hid hP
    clear hP hrg
    have HPe := Lib.hid ((HP2.out.set0 (I (rg : Nat))).set1 (.slice va P.length vc))
    go_wp2_with fail
    have d0 := HPe.out.c0; have d1 := HPe.out.c1
    refine bodyPost_ret (v := .tuple #[.agg #[I (rg : Nat), .slice va P.length vc], .nilIface]) (by simp [results, Tryd.results22, go_sem, d0, d1]) rfl ⟨.inl ⟨HD.out, .slice va P.length vc, by rw [HRG.out], ?_⟩, ?_⟩
    · rw [← HPq.out]
      have hU : Upd (fun b => b = w.heap.size + 1) w2 ((w2.setCell ⟨w.heap.size + 1, 0, none⟩ (I (rg : Nat))).setCell ⟨w.heap.size + 1, 1, none⟩ (.slice va P.length vc)) := ((Upd.refl (fun b => b = w.heap.size + 1) w2).setCell (a := ⟨w.heap.size + 1, 0, none⟩) (fun _ => rfl) _).setCell (a := ⟨w.heap.size + 1, 1, none⟩) (fun _ => rfl) _
      exact HV.out.kept hU fun t ht e => HV.out.block_ne HP2.out.kd (by decide) t ht e
    · exact (HB2.out.setCell (by show w.heap.size ≤ w.heap.size + 1; omega) _).setCell (by show w.heap.size ≤ w.heap.size + 1; omega) _
  · have HD := Lib.hid hd
    clear h hd
    have HPe := Lib.hid ((HP2.out.set0 (I 0)).set1 (.slice none 0 0))
    go_wp2_with fail
    have d0 := HPe.out.c0; have d1 := HPe.out.c1
    refine bodyPost_ret (v := .tuple #[.agg #[I 0, .slice none 0 0], .iface 33 (I 3)]) (by simp [results, Tryd.results22, go_sem, d0, d1]) rfl ⟨.inr ⟨HD.out, rfl⟩, ?_⟩
    exact (HB2.out.setCell (by show w.heap.size ≤ w.heap.size + 1; omega) _).setCell (by show w.heap.size ≤ w.heap.size + 1; omega) _

def CompBad (w : World) (e : Ending) (w' : World) : Prop := e = .returned (.tuple #[.agg #[I 0, .slice none 0 0], .iface 33 (I 1)]) ∧ Below w.heap.size w w'

set_option maxHeartbeats 400000 in
theorem sCompile_bad (D L G : Int) (x : Nat) (hR : ¬ RightI D L G) (w : World) : Calls Tryd.prog 22 #[PV D L G, U x] w (CompBad w) := by
  have HN := Lib.hid (new_bad D L G hR)
  clear hR
  have HB := Lib.hid (((Below.refl w.heap.size w).alloc (Nat.le_refl _) (.cells #[I D, I L, I G] 23)).alloc (by simp) (.cells #[I 0, .slice none 0 0] 39))
  have HP := Lib.hid (pairP_new w (.cells #[I D, I L, I G] 23))
  go_enter Tryd.func22, Tryd.ntmps22
  go_wp2_with fail
  refine (HN.out _).mono ?_
  rintro e w1 ⟨rfl, hb⟩
  have HB1 := Lib.hid (HB.out.trans (hb.mono HB.out.size))
  have HP1 := Lib.hid (HP.out.later hb)
  have hsz1 := HB1.out.size
  clear hb HB HP
  have p0 := HP1.out.c0; have p1 := HP1.out.c1; have p2 := HP1.out.f0; have p3 := HP1.out.f1
  have HPe := Lib.hid ((HP1.out.set0 (I 0)).set1 (.slice none 0 0))
  go_wp2_with fail
  have d0 := HPe.out.c0; have d1 := HPe.out.c1
  refine bodyPost_ret (v := .tuple #[.agg #[I 0, .slice none 0 0], .iface 33 (I 1)]) (by simp [results, Tryd.results22, go_sem, d0, d1]) rfl ⟨rfl, ?_⟩
  exact (HB1.out.setCell (by show w.heap.size ≤ w.heap.size + 1; omega) _).setCell (by show w.heap.size ≤ w.heap.size + 1; omega) _
end Go.Proofs.YthaamnjpjkkolabDoor
