import Derived.Test.YthaamnjpjkkolabDoorMat
import Derived.Deep.RegionWith
/- Tables; AddTo, of whatever rows. -/
namespace Go.Proofs.YthaamnjpjkkolabDoor
open Go.RowKit Go.Proofs
set_option maxRecDepth 100000
set_option linter.unusedVariables false

theorem tableZero : Tryd.zeroCells152 = madeCells #[.int .u8 0] 256 := by kernel_rfl

/-- A row made of literals. -/
theorem Row.newZ (w : World) (n : Nat) (t : TypeId) (cs : Array Value) (h : cs = madeCells #[.int .u8 0] n) : Row (w.alloc (.cells cs t)) w.heap.size 0 n (bs fun _ => 0) := by
  subst h; exact (Row.new w (.int .u8 0) n t).congr fun i _ => by simp [bs, B]

theorem mul_wrap (x z : UInt8) (w : World) : Calls Tryd.prog 62 #[B x, .int .u8 (IntKind.u8.wrap (z.toNat : Int))] w fun e w' => e = .returned (B (Gf.mul x z)) ∧ w' = w := by
  have e : IntKind.u8.wrap (z.toNat : Int) = (z.toNat : Int) := by
    show (z.toNat : Int) % 2 ^ 8 = _
    have := z.toNat_lt; omega
  rw [e]; exact mul_still x z w

set_option maxHeartbeats 1000000 in
theorem by_any (c : UInt8) (w : World) : Calls Tryd.prog 63 #[B c] w fun e w' => e = .returned (.pointer (some ⟨w.heap.size, 0, none⟩)) ∧ Below w.heap.size w w' ∧ Row w' w.heap.size 0 256 (bs (fun j => Gf.mul c (UInt8.ofNat j))) := by
  have HR := Lib.hid (Row.newZ w 256 152 _ tableZero)
  go_enter Tryd.func63, Tryd.ntmps63
  go_wp2_with fail
  generalize hW : w.alloc (.cells Tryd.zeroCells152 152) = W at *
  have HB := Lib.hid (hW ▸ (Below.refl w.heap.size w).alloc (Nat.le_refl _) _)
  clear hW
  go_loopg [7] 256 (fun g i wr => ∃ m : Nat, g = 256 - m ∧ m ≤ 256 ∧ i = I m ∧ Doing W wr w.heap.size 256 m (fun _ => 0) (fun j => Gf.mul c (UInt8.ofNat j)))
  case atStart => exact ⟨0, rfl, by omega, rfl, Doing.start HR.out⟩
  case round =>
    obtain ⟨m, rfl, hm, rfl, hd⟩ := hrel
    have HD := Lib.hid hd
    clear hd
    by_cases hlt : m < 256
    · have d1 := (HD.out.drewN 1).cellAt hlt
      have d2 := (HD.out.drewN 1).freeAt hlt
      obtain ⟨z, hz⟩ : ∃ z : UInt8, z.toNat = m := ⟨UInt8.ofNat m, by rw [UInt8.toNat_ofNat']; omega⟩
      have HZ := Lib.hid (show Gf.mul c z = Gf.mul c (UInt8.ofNat m) by rw [← hz, UInt8.ofNat_toNat])
      subst hz
      have hzlt : z.toNat < 256 := z.toNat_lt
      go_wp2_with fail
      go_still_tail 8, mixed
      still_call (mul_wrap _ z _)
      repeat still_step
      refine wpStill_nil ?_
      change wpList _ _ _ _ _ (wr.drewN 1)
      go_wp2_with fail
      go_roundg (256 - (z.toNat + 1))
      case measure => omega
      case rel => exact ⟨z.toNat + 1, rfl, by omega, by go_num, (HD.out.drewN 1).next hlt (by rw [HZ.out])⟩
    · obtain rfl : m = 256 := by omega
      go_wp2_with fail
      go_ret
      exact ⟨rfl, Below.upd HB.out HD.out.upd (fun b e => by omega) HB.out.size, HD.out.done.row⟩
end Go.Proofs.YthaamnjpjkkolabDoor
