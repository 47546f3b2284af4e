import Derived.Test.YtgelingkifafeaaGreatDoorBu31
import Derived.Test.YtgelingkifafeaaGreatDoorBu32
import Derived.Test.YtgelingkifafeaaGreatDoorBu05
import Derived.Test.YtgelingkifafeaaGreatDoorBu36
import Derived.Test.YtgelingkifafeaaGreatDoorBu38
import Derived.Test.YtgelingkifafeaaGreatDoorBu11
/- The law's world: an array, an archive, the document's archive. -/
namespace Go.Proofs.YtgelingkifafeaaGreatDoor
open Go Go.RowKit Go.Proofs Lin
set_option maxRecDepth 100000
set_option linter.unusedVariables false

/-- The cells of a law's world. -/
def wcell (D L G : Nat) (av sv rv : Value) (n : Int) (ov wv : Value) (c : Int) : Nat → Value := fun i => ([I D, I L, I G, av, sv, rv, I n, ov, wv, I c] : List Value).getD i (.bool false)

set_option maxHeartbeats 2000000 in
theorem wopen_any (w : World) (wb : Nat) (l : ArrL) (D L G : Nat) (sv rv ov wv : Value) (n c : Int) (hW : Row w wb 0 10 (wcell D L G (.pointer (some ⟨l.ab, 0, none⟩)) sv rv n ov wv c)) (X : Nat → Prop) (R : World → Nat → World → Prop) (hX : ¬ X wb)
    (hO : ∀ V, Below w.heap.size w V → Calls Tryz.prog 6 #[.pointer (some ⟨l.ab, 0, none⟩), PV D L G, .agg #[I c]] V fun e V' => ∃ sb, e = .returned (.tuple #[.pointer (some ⟨sb, 0, none⟩), .nilIface]) ∧ Upd X V V' ∧ R V sb V') :
    Calls Tryz.prog 21 #[.pointer (some ⟨wb, 0, none⟩)] w fun e w' => e = .returned (.bool true) ∧ ∃ sb V0 V, w.heap.size ≤ V0.heap.size ∧ R V0 sb V ∧ Upd (· = wb) V w' ∧ Upd X w V ∧ Row w' wb 0 10 (wcell D L G (.pointer (some ⟨l.ab, 0, none⟩)) (.pointer (some ⟨sb, 0, none⟩)) rv n ov wv c) ∧ KdKept V w' := by
  have HO := Lib.hid hO
  have HX := Lib.hid hX
  have HWr := Lib.hid hW
  clear hO hX hW
  go_enter Tryz.func21, Tryz.ntmps21
  go_upto_region 1 with fail
  obtain ⟨κ, hnk, wB, hBB, HWB⟩ := later_worlds w
  obtain ⟨κ2, hnk2, wC, hCC, HWC⟩ := upd_worlds X w
  have HBB := Lib.hid hBB
  have HRw := Lib.hid (fun n => HWr.out.upd (hCC n) (fun _ => HX.out))
  have y0 : ∀ n, (wC n).cell? ⟨wb, 0, none⟩ = some (I D) := fun n => (HRw.out n).cell 0 (by omega)
  have y1 : ∀ n, (wC n).cell? ⟨wb, 1, none⟩ = some (I L) := fun n => (HRw.out n).cell 1 (by omega)
  have y2 : ∀ n, (wC n).cell? ⟨wb, 2, none⟩ = some (I G) := fun n => (HRw.out n).cell 2 (by omega)
  have y3 : ∀ n, (wC n).cell? ⟨wb, 3, none⟩ = some (.pointer (some ⟨l.ab, 0, none⟩)) := fun n => (HRw.out n).cell 3 (by omega)
  have y9 : ∀ n, (wC n).cell? ⟨wb, 9, none⟩ = some (I c) := fun n => (HRw.out n).cell 9 (by omega)
  clear hBB hCC
  refine wp_region_held_lex 13 (fun V => ∃ n, V = wC n) mixed0 (by kernel_rfl) rfl (fun c a d v w h => by cases d <;> exact h) (HWC.out _ (Upd.of_below (below_drew' w) |>.mono fun _ _ h => h.elim)) ?_
  simp only [List.take_succ_cons, List.take_zero, List.drop_succ_cons, List.drop_zero]
  change wpQuiet _ _ _ _ (_ :: _ :: _ :: _ :: _ :: _ :: _ :: _ :: _ :: _ :: _ :: _ :: _ :: []) _
  repeat (go_big_quiet_step (fail))
  refine wpQuiet_nil ?_
  clear y0 y1 y2 y3 y9
  refine wpOp_list (i := 13) rfl rfl ?_
  go_wp2_with fail
  refine (HO.out _ (below_drew' w)).mono ?_
  rintro e w2 ⟨sb, rfl, hu, hR⟩
  have HU := Lib.hid ((Upd.of_below (below_drew' w) |>.mono fun _ _ h => h.elim).trans hu (fun _ h _ => h) : Upd X w w2)
  have HR := Lib.hid hR
  clear hu hR
  go_wp2_with fail
  refine ⟨HWC.out _ HU.out, ?_⟩
  unfold tailK
  change wpQuiet _ _ _ _ (_ :: _ :: _ :: _ :: _ :: []) _
  repeat (go_big_quiet_step (fail))
  refine wpQuiet_nil ?_
  go_upto_region 3 with (go_at_call 7; refine (tell_nil w2).mono ?_; rintro e w3 ⟨rfl, hb3⟩)
  have HWr3 := Lib.hid ((HWr.out.upd HU.out (fun _ => HX.out)).later hb3)
  have s4 : w3.cell? ⟨wb, 4, none⟩ = some sv := HWr3.out.cell 4 (by omega)
  have f4 : w3.frozen? ⟨wb, 4, none⟩ = false := HWr3.out.free 4 (by omega)
  have HB3 := Lib.hid hb3
  clear hb3
  go_wp2_with fail
  go_ret
  refine ⟨rfl, sb, w.drew, w2, Nat.le_refl _, HR.out, (Upd.of_below HB3.out).mono (fun _ _ h => h.elim) |>.trans ((Upd.refl _ w3).at1 4 _) (fun _ h _ => h), HU.out, ?_, (KdKept.below HB3.out).set _ _⟩
  have h := HWr3.out.set (i := 4) (by omega) (.pointer (some ⟨sb, 0, none⟩))
  rw [Nat.zero_add] at h
  refine h.congr fun i hi => ?_
  match i, hi with | 0, _ | 1, _ | 2, _ | 3, _ | 4, _ | 5, _ | 6, _ | 7, _ | 8, _ | 9, _ => rfl

set_option maxHeartbeats 2000000 in
theorem begin_any (w : World) (D L G m : Nat) (c : Int) (hR : Right D L G) (hm : m ≤ 1000000) (R : World → ArrL → Nat → World → Prop)
    (hO : ∀ V l (cc : Nat), cc ≤ 64 → ArrAt V l (arr0 (D + L + G) m) → (∀ b, l.own (D + L + G) b → w.heap.size ≤ b) → Calls Tryz.prog 6 #[.pointer (some ⟨l.ab, 0, none⟩), PV D L G, .agg #[I cc]] V fun e V' => ∃ sb, e = .returned (.tuple #[.pointer (some ⟨sb, 0, none⟩), .nilIface]) ∧ Upd (l.own (D + L + G)) V V' ∧ R V l sb V') :
    Calls Tryz.prog 13 #[PV D L G, I m, I c] w fun e w' => ∃ (l : ArrL) (wb sb rb cc : Nat) (V0 V : World), e = .returned (.tuple #[.pointer (some ⟨wb, 0, none⟩), .bool true]) ∧ cc ≤ 64 ∧ wb < V0.heap.size ∧ rb < wb ∧ R V0 l sb V ∧ KdKept V w' ∧ Upd (· = wb) V w' ∧ Below w.heap.size w w' ∧ Row w' wb 0 10 (wcell D L G (.pointer (some ⟨l.ab, 0, none⟩)) (.pointer (some ⟨sb, 0, none⟩)) (.pointer (some ⟨rb, 0, none⟩)) m (.slice none 0 0) (.slice none 0 0) cc) ∧
      Kd w' wb 51 ∧ Row w' rb 0 1 (fun _ => .slice none 0 0) ∧ Kd w' rb 73 ∧ w.heap.size ≤ wb ∧ w.heap.size ≤ rb ∧ ∀ b, l.own (D + L + G) b → w.heap.size ≤ b := by
  have HO := Lib.hid hO
  have h7 := hR.sum
  obtain ⟨cc, hcc, ecc⟩ := pickN c 65 (by omega) (by omega)
  have HCC := Lib.hid (show wrap64 ((IntKind.u64.wrap c).tmod 65) = (cc : Int) from ecc)
  have HBx := Lib.hid (show Below w.heap.size w (w.alloc (.cells #[I D, I L, I G] 23)) from (Below.refl _ w).alloc (Nat.le_refl _) _)
  have HPx := Lib.hid (pcI_new w D L G 23)
  have HSh := Lib.hid (fun V => show Calls Tryz.prog 15 #[PV D L G] V fun e w' => e = .returned (I ((D + L + G : Nat) : Int)) ∧ Below V.heap.size V w' from by
    have := shards_any D L G (by omega) V; rwa [show (D : Int) + L + G = ((D + L + G : Nat) : Int) by omega] at this)
  clear hO ecc
  obtain ⟨N, hN⟩ : ∃ N, N = D + L + G := ⟨_, rfl⟩
  rw [← hN] at HSh HO ⊢
  have HNe := Lib.hid hN
  have hN16 : N ≤ 16 := by omega
  clear hN
  go_enter Tryz.func13, Tryz.ntmps13
  go_upto_region 1 with fail
  generalize w.alloc (.cells #[.int .i64 D, .int .i64 L, .int .i64 G] 23) = w1 at *
  have c0 : w1.cell? ⟨w.heap.size, 0, none⟩ = some (I D) := HPx.out 0 (by omega)
  have c1 : w1.cell? ⟨w.heap.size, 1, none⟩ = some (I L) := HPx.out 1 (by omega)
  have c2 : w1.cell? ⟨w.heap.size, 2, none⟩ = some (I G) := HPx.out 2 (by omega)
  go_upto_region 2 with (first | (go_at_call 15; refine (HSh.out w1).mono ?_; rintro e w2 ⟨rfl, hb2⟩) | (go_at_call 5; refine (newArray_any N m (by omega) hm w2).mono ?_; rintro e w3 ⟨l, rfl, hA3, hb3, ho3⟩))
  have HB3 := Lib.hid (HBx.out.trans ((hb2.trans (hb3.mono hb2.size)).mono HBx.out.size))
  have HP3 := Lib.hid ((HPx.out.later hb2).later hb3)
  have HA3 := Lib.hid hA3
  have HO3 := Lib.hid (show ∀ b, l.own N b → w1.heap.size ≤ b from fun b hb => by have := ho3 b hb; have := hb2.size; omega)
  have hw1 := HPx.out.lt (by omega)
  clear hb2 hb3 hA3 ho3 c0 c1 c2 HBx HPx
  have c0 : w3.cell? ⟨w.heap.size, 0, none⟩ = some (I D) := HP3.out 0 (by omega)
  have c1 : w3.cell? ⟨w.heap.size, 1, none⟩ = some (I L) := HP3.out 1 (by omega)
  have c2 : w3.cell? ⟨w.heap.size, 2, none⟩ = some (I G) := HP3.out 2 (by omega)
  go_upto_region 3 with fail
  rw [HCC.out]
  have hb5 : Below w3.heap.size w3 ((w3.alloc (.cells #[.slice none 0 0] 73)).alloc (.cells #[I D, I L, I G, .pointer (some ⟨l.ab, 0, none⟩), .pointer none, .pointer (some ⟨w3.heap.size, 0, none⟩), I m, .slice none 0 0, .slice none 0 0, I cc] 51)) := ((Below.refl _ w3).alloc (Nat.le_refl _) _).alloc (by simp) _
  have HRb := Lib.hid (((Row.lit w3 #[.slice none 0 0] 73).alloc (.cells #[I D, I L, I G, .pointer (some ⟨l.ab, 0, none⟩), .pointer none, .pointer (some ⟨w3.heap.size, 0, none⟩), I m, .slice none 0 0, .slice none 0 0, I cc] 51)).congr (g := fun _ => .slice none 0 0) fun i hi => by match i, hi with | 0, _ => rfl)
  have HKr := Lib.hid ((Kd.new w3 #[.slice none 0 0] 73).later ((Below.refl _ _).alloc (Nat.le_refl _) (.cells #[I D, I L, I G, .pointer (some ⟨l.ab, 0, none⟩), .pointer none, .pointer (some ⟨w3.heap.size, 0, none⟩), I m, .slice none 0 0, .slice none 0 0, I cc] 51)))
  have HKw := Lib.hid (Kd.new (w3.alloc (.cells #[.slice none 0 0] 73)) #[I D, I L, I G, .pointer (some ⟨l.ab, 0, none⟩), .pointer none, .pointer (some ⟨w3.heap.size, 0, none⟩), I m, .slice none 0 0, .slice none 0 0, I cc] 51)
  have HRw := Lib.hid ((Row.lit (w3.alloc (.cells #[.slice none 0 0] 73)) #[I D, I L, I G, .pointer (some ⟨l.ab, 0, none⟩), .pointer none, .pointer (some ⟨w3.heap.size, 0, none⟩), I m, .slice none 0 0, .slice none 0 0, I cc] 51).congr (g := wcell D L G (.pointer (some ⟨l.ab, 0, none⟩)) (.pointer none) (.pointer (some ⟨w3.heap.size, 0, none⟩)) m (.slice none 0 0) (.slice none 0 0) cc) fun i hi => by match i, hi with | 0, _ | 1, _ | 2, _ | 3, _ | 4, _ | 5, _ | 6, _ | 7, _ | 8, _ | 9, _ => rfl)
  rw [World.size_alloc] at HRw HKw
  have HB5 := Lib.hid hb5
  clear hb5 c0 c1 c2 HP3 HSh
  generalize (w3.alloc (.cells #[.slice none 0 0] 73)).alloc (.cells #[.int .i64 D, .int .i64 L, .int .i64 G, .pointer (some ⟨l.ab, 0, none⟩), .pointer none, .pointer (some ⟨w3.heap.size, 0, none⟩), .int .i64 m, .slice none 0 0, .slice none 0 0, .int .i64 cc] 51) = w5 at *
  have hlo : ∀ b, l.own N b → b < w3.heap.size := HA3.out.own_lt
  have HLo := Lib.hid hlo
  have HOp := Lib.hid (wopen_any w5 (w3.heap.size + 1) l D L G _ _ _ _ _ _ HRw.out (l.own N) (fun V0 => R V0 l) (fun h => by have := hlo _ h; omega)
    (fun V hb => HO.out V l cc (by omega) ((HA3.out.later HB5.out).later hb) (fun b hb' => by have := HO3.out b hb'; omega)))
  clear hlo HO
  go_wp2_with (go_at_call 21; refine HOp.out.mono ?_; rintro e w6 ⟨rfl, sb, V0, V, hV0, hRV, huV, huX, hrow, hkv⟩; have HE := Lib.hid (And.intro hV0 (And.intro hRV (And.intro huV (And.intro huX (And.intro hrow hkv))))); clear hV0 hRV huV huX hrow hkv)
  go_ret2
  obtain ⟨hV0, hRV, huV, huX, hrow, hkv⟩ := HE.out
  have hx1 : ¬ l.own N w3.heap.size := fun h => by have := HLo.out _ h; omega
  have hx2 : ¬ l.own N (w3.heap.size + 1) := fun h => by have := HLo.out _ h; omega
  have hs3 := HB3.out.size
  have hs5 := HB5.out.size
  have hk5 := HKw.out.lt
  refine ⟨l, w3.heap.size + 1, sb, w3.heap.size, cc, V0, V, rfl, by omega, by omega, by omega, hRV, hkv, huV, ?_, hrow, hkv _ _ (HKw.out.upd huX hx2), (HRb.out.upd huX fun _ => hx1).upd huV fun _ => by omega, (HKr.out.upd huX hx1).upd huV (by omega), by omega, by omega, fun b hb => by have := HO3.out b hb; omega⟩
  exact Below.upd (Below.upd (HB3.out.trans (HB5.out.mono hs3)) huX (fun b hb => by have := HO3.out b hb; omega) (by omega)) huV (fun b e => by omega) (by have := huX.size; omega)
end Go.Proofs.YtgelingkifafeaaGreatDoor
