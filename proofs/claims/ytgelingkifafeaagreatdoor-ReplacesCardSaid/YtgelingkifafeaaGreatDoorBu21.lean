import Derived.Test.YtgelingkifafeaaGreatDoorBu03
import Derived.Test.YtgelingkifafeaaGreatDoorBu20
import Derived.Test.YtgelingkifafeaaGreatDoorBu05
/- errors.Is of an error at a block, and a lack of power. -/
namespace Go.Proofs.YtgelingkifafeaaGreatDoor
open Go Go.RowKit Go.Proofs Go.Extern.Stop Go.Stop Go.Extern
set_option maxRecDepth 100000
set_option linter.unusedVariables false

theorem eq_other (p x : Value) (w : World) : (binOp .eql 29 (.iface 208 p) (.iface 34 x)).run Tryz.prog w = .ok (.bool false) w := by kernel_rfl
theorem eq_errno (k t : Int) (w : World) : (binOp .eql 29 (.iface 34 (I k)) (.iface 34 (I t))).run Tryz.prog w = .ok (.bool (k == t)) w := by kernel_rfl
theorem eq_nilE (x : Value) (w : World) : (binOp .eql 29 .nilIface (.iface 34 x)).run Tryz.prog w = .ok (.bool false) w := by kernel_rfl
theorem ta_is1 (p : Value) (w : World) : (Instr.typeAssert (.iface 208 p) 29 243 true).run Tryz.prog w = .ok (.tuple #[.nilIface, .bool false]) w := run_typeAssert_lacksB Tryz.underlying243 (by kernel_rfl) (by kernel_rfl) p _ w
theorem ta_un1 (p : Value) (w : World) : (Instr.typeAssert (.iface 208 p) 29 162 true).run Tryz.prog w = .ok (.tuple #[.iface 208 p, .bool true]) w := by kernel_rfl
theorem ta_is2 (p : Value) (w : World) : (Instr.typeAssert (.iface 34 p) 29 243 true).run Tryz.prog w = .ok (.tuple #[.nilIface, .bool false]) w := run_typeAssert_lacksB Tryz.underlying243 (by kernel_rfl) (by kernel_rfl) p _ w
theorem ta_un2 (p : Value) (w : World) : (Instr.typeAssert (.iface 34 p) 29 162 true).run Tryz.prog w = .ok (.tuple #[.nilIface, .bool false]) w := run_typeAssert_lacksB Tryz.underlying162 (by kernel_rfl) (by kernel_rfl) p _ w
theorem ta_us2 (p : Value) (w : World) : (Instr.typeAssert (.iface 34 p) 29 163 true).run Tryz.prog w = .ok (.tuple #[.nilIface, .bool false]) w := run_typeAssert_lacksB Tryz.underlying163 (by kernel_rfl) (by kernel_rfl) p _ w
theorem m_unwrap (h : Value) (w : World) : (Go.method 392 208 h "Unwrap").run Tryz.prog w = .ok (155, h) w := by kernel_rfl
theorem is_nil (k : Int) (w : World) : Calls Tryz.prog 77 #[.nilIface, .iface 34 (I k)] w fun e w' => e = .returned (.bool false) ∧ w' = w := by
  have e0 := eq_nilE (I k)
  go_enter Tryz.func77, Tryz.ntmps77
  go_wp2_with fail
  go_ret
  exact ⟨rfl, rfl⟩

theorem unwrap_any (p : Nat) (k : Int) (w : World) (h : w.cell? ⟨p, 2, none⟩ = some (I k)) : Calls Tryz.prog 155 #[.pointer (some ⟨p, 0, none⟩)] w fun e w' => e = .returned (.iface 34 (I k)) ∧ w' = w := by
  go_enter Tryz.func155, Tryz.ntmps155
  go_wp2_with fail
  go_ret
  exact ⟨rfl, rfl⟩
set_option maxHeartbeats 400000 in
theorem is_berr (v : Value) (k t : Int) (w : World) (h : BErr w v k) (hk : k ≠ t) : Calls Tryz.prog 94 #[v, .iface 34 (I t), .bool true] w fun e w' => e = .returned (.bool false) ∧ w' = w := by
  obtain ⟨p, d, b, rfl, hr, _⟩ := h
  have c2 : w.cell? ⟨p, 2, none⟩ = some (I k) := hr.cell 2 (by omega)
  have hkt : (k == t) = false := by simp [hk]
  clear hr hk
  have e0 := eq_other (.pointer (some ⟨p, 0, none⟩)) (I t)
  have e1 := eq_errno k t
  rw [hkt] at e1
  have t1 := ta_is1 (.pointer (some ⟨p, 0, none⟩)); have t2 := ta_un1 (.pointer (some ⟨p, 0, none⟩)); have t3 := ta_is2 (I k); have t4 := ta_un2 (I k); have t5 := ta_us2 (I k); have m1 := m_unwrap (.pointer (some ⟨p, 0, none⟩))
  go_enter Tryz.func94, Tryz.ntmps94
  go_wp2_with fail
  refine wp_loop_rounds 2 ?_
  rw [rounds_succ]
  go_wp2_with fail
  refine (unwrap_any p k w c2).mono ?_
  rintro e w1 ⟨rfl, rfl⟩
  go_wp2_with fail
  rw [rounds_succ]
  go_wp2_with fail
  go_ret
  exact ⟨rfl, rfl⟩

theorem is_methodC (h : Value) (w : World) : (Go.method 392 154 (.agg #[h]) "Comparable").run Tryz.prog w = .ok (144, .agg #[h]) w := by kernel_rfl
theorem is_compE (w : World) : (ReflectliteType.method (fun t => do Rtype.noPackHeld "Comparable" t; (fun a : TypeInfo => Value.bool a.comparable) <$> typeInfo t) #[.agg #[.pointer (some ⟨3, 34, none⟩)]]).run Tryz.prog w = .ok (.bool true) w := by kernel_rfl

set_option maxHeartbeats 400000 in
theorem isPower_no (v : Value) (o : Option Int) (w : World) (h : EV w v o) (ho : o ≠ some 13) : Calls Tryz.prog 77 #[v, .iface 34 (I 13)] w fun e w' => e = .returned (.bool false) ∧ w' = w := by
  cases o with
  | none => obtain rfl : v = .nilIface := h; exact is_nil 13 w
  | some k =>
    have hk : k ≠ 13 := fun e => ho (by rw [e])
    have HI := Lib.hid (is_berr v k 13 w h hk)
    obtain ⟨p, d, b, rfl, hr, _⟩ := id h
    clear h hr
    have h10 := @run_callFunc_extern Tryz.prog 52 _ ReflectliteType.typeOf Tryz.func52 (by kernel_rfl) (by kernel_rfl) (by kernel_rfl) (by kernel_rfl)
    have h11 := @run_callFunc_extern Tryz.prog 144 _ (ReflectliteType.method (fun t => do Rtype.noPackHeld "Comparable" t; pure (.bool (← typeInfo t).comparable))) Tryz.func144 (by kernel_rfl) (by kernel_rfl) (by kernel_rfl) (by kernel_rfl)
    have tO := as_typeOfE
    have mC := is_methodC
    have cE := is_compE
    go_enter Tryz.func77, Tryz.ntmps77
    go_wp2_with fail
    refine HI.out.mono ?_
    rintro e w1 ⟨rfl, rfl⟩
    go_wp2_with fail
    go_ret
    exact ⟨rfl, rfl⟩

set_option maxHeartbeats 400000 in
theorem powered_any (v : Value) (o : Option Int) (w : World) (h : EV w v o) (ho : o ≠ some 13) : Calls Tryz.prog 55 #[v] w fun e w' => e = .returned v ∧ w' = w := by
  have HI := Lib.hid (isPower_no v o w h ho)
  go_enter Tryz.func55, Tryz.ntmps55
  go_wp2_with (go_at_call 77; refine HI.out.mono ?_; rintro e w1 ⟨rfl, rfl⟩)
  go_ret
  exact ⟨rfl, rfl⟩
end Go.Proofs.YtgelingkifafeaaGreatDoor
