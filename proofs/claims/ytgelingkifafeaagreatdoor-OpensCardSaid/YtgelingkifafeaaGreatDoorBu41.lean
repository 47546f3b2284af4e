import Derived.Test.YtgelingkifafeaaGreatDoorBu26
import Derived.Defers
import Derived.Recover
import Derived.Laws.Pointers
/- guarded: a call, a lack of power told as an error. -/
namespace Go.Proofs.YtgelingkifafeaaGreatDoor
open Go Go.RowKit Go.Proofs Lin
set_option maxRecDepth 100000
set_option linter.unusedVariables false

theorem eq_nil20 (w : World) : (binOp .eql 20 .nilIface .nilIface).run Tryz.prog w = .ok (.bool true) w := by kernel_rfl

theorem guard_idle (p : Addr) (w : World) :
    CallsD Tryz.prog 46 #[.pointer (some p)] .returning w fun e u' w' => e = .returned (.tuple #[]) ∧ u' = .returning ∧ w' = w := by
  refine callsD_of_wpS Tryz.func46 rfl fun c₀ cs hu => ?_
  apply wpS_seq
  apply wpS_region
  simp [wpOpsS, go_sem, recoverD, hu, Tryz.ntmps46, Exit.thenS]
  refine wpS_of_wp ?_
  have e0 := eq_nil20
  change Code.wp _ _ _ { tmps := #[.pointer (some p), undef, undef, undef, .nilIface, undef, undef, undef, undef, undef, undef, undef], defers := [] } _
  go_wp2_with fail
  cases c₀
  simp_all [bodyPostS, results, Tryz.results46]

set_option maxHeartbeats 400000 in
theorem guarded_any (f : FuncId) (c1 c2 args : Array Value) (hargs : c1 ++ c2 = args) (heg : ∀ w, (callFunc f args).run Tryz.prog w = .ok (.enter f args) w) (w : World) (X : Nat → Prop) (R : Value → World → Prop) (hX : ∀ b, X b → b < w.heap.size)
    (hc : ∀ w1, Below w.heap.size w w1 → w1.heap.size = w.heap.size + 1 → Calls Tryz.prog f args w1 fun e w2 => ∃ v, e = .returned v ∧ (v = .nilIface ∨ ∃ t x, v = .iface t x) ∧ Upd X w1 w2 ∧ R v w2) :
    Calls Tryz.prog 30 #[.func (.func f) c1 c2] w fun e w' => ∃ v w2, e = .returned v ∧ (v = .nilIface ∨ ∃ t x, v = .iface t x) ∧ Upd X w w2 ∧ w.heap.size < w2.heap.size ∧ R v w2 ∧ w' = w2.setCell ⟨w.heap.size, 0, none⟩ v := by
  have hb0 : Below w.heap.size w (w.alloc (.cells #[.nilIface] 29)) := (Below.refl _ w).alloc (Nat.le_refl _) _
  have HC := Lib.hid (hc _ hb0 (World.size_alloc ..))
  have HR0 := Lib.hid (Row.lit w #[.nilIface] 29)
  have HB0 := Lib.hid hb0
  have hmf : ∀ (fn : Fn) (first cap : Array Value) (w : World), (Instr.makeFunc fn first cap).run Tryz.prog w = .ok (.func fn first cap) w := fun _ _ _ _ => rfl
  clear hc hb0
  go_enter_defers Tryz.func30, Tryz.ntmps30
  go_wp2_with fail
  refine HC.out.mono ?_
  rintro e w2 ⟨v, rfl, hv, hu, hR⟩
  have hr2 := HR0.out.upd hu (fun _ hx => by have := hX _ hx; omega)
  have c0 : w2.cell? ⟨w.heap.size, 0, none⟩ = some .nilIface := hr2.cell 0 (by simp)
  have f0 : w2.frozen? ⟨w.heap.size, 0, none⟩ = false := hr2.free 0 (by simp)
  have HU := Lib.hid ((((Upd.of_below HB0.out).mono fun _ _ h => h.elim).trans hu (fun _ h _ => h)) : Upd X w w2)
  have hz := hu.size
  rw [World.size_alloc] at hz
  have HR := Lib.hid hR
  have HV := Lib.hid hv
  have d0 : (w2.setCell ⟨w.heap.size, 0, none⟩ v).cell? ⟨w.heap.size, 0, none⟩ = some v := cell_set_same c0 v
  clear hu hR hr2
  rcases hv with rfl | ⟨t, x, rfl⟩
  all_goals
    go_wp2_with fail
    refine leaves_cons (f := 46) (args := #[.pointer (some ⟨w.heap.size, 0, none⟩)]) (by simp) (by simp [go_sem]) ?_
    refine (guard_idle ⟨w.heap.size, 0, none⟩ _).mono ?_
    rintro e u' w'' ⟨rfl, rfl, rfl⟩
    simp [Leaves, settle, results, Tryz.results30, go_sem, d0]
    exact ⟨w2, HU.out, by omega, HR.out, rfl⟩
end Go.Proofs.YtgelingkifafeaaGreatDoor
