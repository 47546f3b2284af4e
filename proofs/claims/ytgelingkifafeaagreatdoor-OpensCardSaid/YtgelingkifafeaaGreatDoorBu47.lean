import Derived.Test.YtgelingkifafeaaGreatDoorBu46
/- stripes.Open. -/
namespace Go.Proofs.YtgelingkifafeaaGreatDoor
open Go Go.RowKit Go.Proofs Lin
set_option maxRecDepth 100000
set_option linter.unusedVariables false

set_option maxHeartbeats 1000000 in
theorem sOpen_bad (w : World) (a : Value) (D L G c : Int) (k : Nat) (hO : ∀ V, Below w.heap.size w V → Calls Tryz.prog 18 #[a, PV D L G, .agg #[I c]] V (OpnBad V k)) : Calls Tryz.prog 6 #[a, PV D L G, .agg #[I c]] w (OpnBad w k) := by
  have HO := Lib.hid hO
  have HBx := Lib.hid (show Below w.heap.size w ((w.alloc (.cells #[I D, I L, I G] 23)).alloc (.cells #[I c] 33)) from ((Below.refl _ w).alloc (Nat.le_refl _) _).alloc (by simp) _)
  clear hO
  go_enter Tryz.func6, Tryz.ntmps6
  go_wp2_with (go_at_call 18; refine (HO.out _ HBx.out).mono ?_; rintro e w2 ⟨rfl, hb⟩; have HB2 := Lib.hid (HBx.out.trans (hb.mono HBx.out.size)); clear hb; simp only [errV])
  go_ret2
  exact ⟨rfl, HB2.out⟩

def SOpnIs (w : World) (l : ArrL) (n D L G : Nat) (r : Option Nat × Hd × Arr) (e : Ending) (w' : World) : Prop :=
  Upd (l.own n) w w' ∧ match r.1 with
  | none => ∃ sb ar cb kb cv β, e = .returned (.tuple #[.pointer (some ⟨sb, 0, none⟩), .nilIface]) ∧ Row w' sb 0 1 (fun _ => .pointer (some ⟨ar, 0, none⟩)) ∧ ArcAt w' ar cb kb l r.2.2 D L G cv β r.2.1 (.slice none 0 0) (.slice none 0 0) .nilIface ∧ w.heap.size ≤ ar ∧ w.heap.size ≤ sb
  | some k => e = .returned (.tuple #[.pointer none, errV (some k)]) ∧ ArrAt w' l r.2.2

set_option maxHeartbeats 1000000 in
theorem sOpen_any (w : World) (l : ArrL) (A : Arr) (D L G c : Nat) (H : ArrAt w l A) (hwt : A.wait < 0) (hR : Right D L G) (hc : c ≤ 64) (hn : A.n = D + L + G) (hm : 8 ≤ A.m)
    (hsz : (hdTo A (D + L + G)).found = true → (hdTo A (D + L + G)).latest.fits D L G = true → (hdTo A (D + L + G)).latest.size = 0) :
    Calls Tryz.prog 6 #[.pointer (some ⟨l.ab, 0, none⟩), PV D L G, .agg #[I c]] w (SOpnIs w l A.n D L G (opnTo D L G hd0 (hdTo A (D + L + G)))) := by
  have HO := Lib.hid (fun V (hb : Below w.heap.size w V) => opnF_any V l A D L G c (H.later hb) hwt hR hc hn hm hsz)
  have HBx := Lib.hid (show Below w.heap.size w ((w.alloc (.cells #[I D, I L, I G] 23)).alloc (.cells #[I c] 33)) from ((Below.refl _ w).alloc (Nat.le_refl _) _).alloc (by simp) _)
  have HOwn := Lib.hid H.own_lt
  clear H hwt hR hc hn hm hsz
  generalize opnTo D L G hd0 (hdTo A (D + L + G)) = r at *
  obtain ⟨r1, r2, r3⟩ := r
  cases r1 with
  | none =>
    go_enter Tryz.func6, Tryz.ntmps6
    go_wp2_with (go_at_call 18; refine (HO.out _ HBx.out).mono ?_; rintro e w2 ⟨hu, ar, cb, kb, cv, β, rfl, hA, hle⟩; have HU := Lib.hid hu; have HA := Lib.hid hA; have HLe := Lib.hid hle; clear hu hA hle)
    go_ret2
    have hb : Below w2.heap.size w2 (w2.alloc (.cells #[.pointer (some ⟨ar, 0, none⟩)] 68)) := (Below.refl _ w2).alloc (Nat.le_refl _) _
    have hs := HU.out.size
    have hs2 := HBx.out.size
    refine ⟨(((Upd.of_below HBx.out).mono (H := l.own A.n) fun _ _ h => h.elim).trans HU.out (fun _ h _ => h)).trans (Upd.of_below hb) (fun _ h _ => h.elim), w2.heap.size, ar, cb, kb, cv, β, rfl, ?_, HA.out.later hb, by have := HLe.out; omega, by omega⟩
    exact (Row.lit w2 #[.pointer (some ⟨ar, 0, none⟩)] 68).congr fun i hi => by match i, hi with | 0, _ => rfl
  | some k =>
    go_enter Tryz.func6, Tryz.ntmps6
    go_wp2_with (go_at_call 18; refine (HO.out _ HBx.out).mono ?_; rintro e w2 ⟨hu, rfl, hA⟩; have HU := Lib.hid hu; have HA := Lib.hid hA; clear hu hA; simp only [errV])
    go_ret2
    exact ⟨((Upd.of_below HBx.out).mono (H := l.own A.n) fun _ _ h => h.elim).trans HU.out (fun _ h _ => h), rfl, HA.out⟩
end Go.Proofs.YtgelingkifafeaaGreatDoor
