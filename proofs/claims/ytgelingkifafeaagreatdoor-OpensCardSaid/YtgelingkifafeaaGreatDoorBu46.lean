import Derived.Test.YtgelingkifafeaaGreatDoorBu45
/- List of an archive without objects. -/
namespace Go.Proofs.YtgelingkifafeaaGreatDoor
open Go Go.RowKit Go.Proofs Lin
set_option maxRecDepth 100000
set_option linter.unusedVariables false

theorem list0_any (w : World) (ar cb kb : Nat) (l : ArrL) (A : Arr) (D L G : Nat) (cv : Value) (β : Nat → Nat) (h : Hd) (lv : Value) (H : ArcAt w ar cb kb l A D L G cv β h (.slice none 0 0) lv .nilIface) :
    Calls Tryz.prog 20 #[.pointer (some ⟨ar, 0, none⟩)] w fun e w' => e = .returned (.tuple #[.slice none 0 0, .nilIface]) ∧ w' = w := by
  have c10 : w.cell? ⟨ar, 10, none⟩ = some (.slice none 0 0) := H.top.cell 10 (by omega)
  have c12 : w.cell? ⟨ar, 12, none⟩ = some .nilIface := H.top.cell 12 (by omega)
  clear H
  go_enter Tryz.func20, Tryz.ntmps20
  go_wp2_with fail
  go_loopg [4, 21] 0 (fun g o i wr => g = 0 ∧ o = .slice none 0 0 ∧ i = .int .i64 0 ∧ wr = w)
  case atStart => exact ⟨rfl, rfl, rfl, rfl⟩
  case round =>
    obtain ⟨_, rfl, rfl, rfl⟩ := hrel
    go_wp2_with fail
    go_ret2
    exact ⟨rfl, rfl⟩

theorem sList0_any (w : World) (sb ar cb kb : Nat) (l : ArrL) (A : Arr) (D L G : Nat) (cv : Value) (β : Nat → Nat) (h : Hd) (lv : Value) (H : ArcAt w ar cb kb l A D L G cv β h (.slice none 0 0) lv .nilIface) (hs : w.cell? ⟨sb, 0, none⟩ = some (.pointer (some ⟨ar, 0, none⟩))) :
    Calls Tryz.prog 11 #[.pointer (some ⟨sb, 0, none⟩)] w fun e w' => e = .returned (.tuple #[.slice none 0 0, .nilIface]) ∧ w' = w := by
  have HL := Lib.hid (list0_any w ar cb kb l A D L G cv β h lv H)
  clear H
  go_enter Tryz.func11, Tryz.ntmps11
  go_wp2_with (go_at_call 20; refine HL.out.mono ?_; rintro e w2 ⟨rfl, rfl⟩)
  go_ret2
  exact ⟨rfl, rfl⟩
end Go.Proofs.YtgelingkifafeaaGreatDoor
