import Derived.Test.YtgelingkifafeaaGreatDoorBu11
import Derived.Test.YtgelingkifafeaaGreatDoorBu43
import Derived.Test.YtgelingkifafeaaGreatDoorBu31
import Derived.Test.YtgelingkifafeaaGreatDoorBu05
import Derived.Test.YtgelingkifafeaaGreatDoorBu07
/- The law Opens: what is refused. -/
namespace Go.Proofs.YtgelingkifafeaaGreatDoor
open Go Go.RowKit Go.Proofs Lin
set_option maxRecDepth 100000
set_option linter.unusedVariables false

theorem pick20 (d : Int) (N : Nat) (h1 : 1 ≤ N) (h2 : N ≤ 40) : ∃ k : Nat, k < N ∧ wrap64 ((IntKind.u64.wrap d).tmod (N : Int)) = (k : Int) := by
  have e : IntKind.u64.wrap d = d % 18446744073709551616 := rfl
  have h0 : 0 ≤ IntKind.u64.wrap d := by rw [e]; omega
  rw [Int.tmod_eq_emod_of_nonneg h0]
  have ha := Int.emod_nonneg (IntKind.u64.wrap d) (b := (N : Int)) (by omega)
  have hb := Int.emod_lt_of_pos (IntKind.u64.wrap d) (b := (N : Int)) (by omega)
  exact ⟨((IntKind.u64.wrap d) % (N : Int)).toNat, by omega, by rw [IntWalk.wrap64_in _ ⟨by omega, by omega⟩]; omega⟩

open Classical in
theorem rightN {D L G : Int} (hR : ¬ RightI D L G) (w : World) : Calls Tryz.prog 9 #[PV D L G] w fun e w' => e = .returned (.bool false) ∧ Below w.heap.size w w' := by
  have h := right_any D L G w
  rwa [show decide (RightI D L G) = false by simpa using hR] at h
open Classical in
theorem rightY {D L G : Nat} (hR : Right D L G) (w : World) : Calls Tryz.prog 9 #[PV D L G] w fun e w' => e = .returned (.bool true) ∧ Below w.heap.size w w' := by
  have h := right_any D L G w
  rwa [show decide (RightI D L G) = true from decide_eq_true ⟨D, L, G, rfl, rfl, rfl, hR⟩] at h

set_option maxHeartbeats 4000000 in
theorem opens_par (D L G dr bl ca : Int) (D' L' G' : Int) (w : World) (hg : Laid w) (n m : Nat) (hn : n < 20) (hm : m < 40) (en : wrap64 ((IntKind.u64.wrap dr).tmod 20) = (n : Int)) (em : wrap64 ((IntKind.u64.wrap bl).tmod 40) = (m : Int)) (hR : ¬ RightI D L G) :
    Calls Tryz.prog 3 #[PV D L G, I dr, I bl, I ca, PV D' L' G'] w (LawTrue w) := by
  have HG := Lib.hid hg
  have HO := Lib.hid (fun V a => sOpen_bad V a D L G ca 1 fun W _ => opnF_bad W a D L G ca hR)
  have HRt := Lib.hid (fun w => rightN hR w)
  clear hR
  clear hg
  have HBx := Lib.hid (show Below w.heap.size w ((w.alloc (.cells #[I D, I L, I G] 23)).alloc (.cells #[I D', I L', I G'] 23)) from ((Below.refl _ w).alloc (Nat.le_refl _) _).alloc (by simp) _)
  have HPx := Lib.hid (show Rd ((w.alloc (.cells #[I D, I L, I G] 23)).alloc (.cells #[I D', I L', I G'] 23)) w.heap.size 0 3 (pcI D L G) from (pcI_new w D L G 23).later ((Below.refl _ _).alloc (Nat.le_refl _) _))
  have HEn := Lib.hid en
  have HEm := Lib.hid em
  clear en em
  go_enter Tryz.func3, Tryz.ntmps3
  go_upto_region 3 with fail
  rw [HEn.out, HEm.out]
  generalize (w.alloc (.cells #[.int .i64 D, .int .i64 L, .int .i64 G] 23)).alloc (.cells #[.int .i64 D', .int .i64 L', .int .i64 G'] 23) = w1 at *
  go_upto_region 4 with (go_at_call 5; refine (newArray_any n m (by omega) (by omega) w1).mono ?_; rintro e w2 ⟨l, rfl, hA2, hb2, ho2⟩)
  have HB2 := Lib.hid (HBx.out.trans (hb2.mono HBx.out.size))
  have HP2 := Lib.hid (HPx.out.later hb2)
  have HA2 := Lib.hid hA2
  clear hb2 ho2 HBx HPx hA2
  have c0 : w2.cell? ⟨w.heap.size, 0, none⟩ = some (I D) := HP2.out 0 (by omega)
  have c1 : w2.cell? ⟨w.heap.size, 1, none⟩ = some (I L) := HP2.out 1 (by omega)
  have c2 : w2.cell? ⟨w.heap.size, 2, none⟩ = some (I G) := HP2.out 2 (by omega)
  go_upto_region 5 with (go_at_call 6; refine (HO.out w2 _).mono ?_; rintro e w3 ⟨rfl, hb3⟩)
  have HB3 := Lib.hid (HB2.out.trans (hb3.mono HB2.out.size))
  have HP3 := Lib.hid (HP2.out.later hb3)
  clear hb3 c0 c1 c2 HB2 HP2
  simp only [errV]
  go_upto_region 6 with (go_at_call 7; refine (tell_errno 1 w3 (HG.out.later HB3.out)).mono ?_; rintro e w4 ⟨rfl, hb4⟩)
  have HB4 := Lib.hid (HB3.out.trans (hb4.mono HB3.out.size))
  have HP4 := Lib.hid (HP3.out.later hb4)
  clear hb4 HB3 HP3
  have c0 : w4.cell? ⟨w.heap.size, 0, none⟩ = some (I D) := HP4.out 0 (by omega)
  have c1 : w4.cell? ⟨w.heap.size, 1, none⟩ = some (I L) := HP4.out 1 (by omega)
  have c2 : w4.cell? ⟨w.heap.size, 2, none⟩ = some (I G) := HP4.out 2 (by omega)
  go_upto_region 7 with (go_at_call 8; refine (theirs_any D L G w4).mono ?_; rintro e w5 ⟨rfl, hb5⟩)
  have HB5 := Lib.hid (HB4.out.trans (hb5.mono HB4.out.size))
  clear hb5 c0 c1 c2 HB4 HP4
  have HQ5 := Lib.hid (pcI_new w5 D L G 36)
  have HBq := Lib.hid ((HB5.out.trans (((Below.refl _ w5).alloc (Nat.le_refl _) (.cells #[I D, I L, I G] 36)).mono HB5.out.size)))
  generalize w5.alloc (.cells #[.int .i64 D, .int .i64 L, .int .i64 G] 36) = w6 at *
  have d0 : w6.cell? ⟨w5.heap.size, 0, none⟩ = some (I D) := HQ5.out 0 (by omega)
  have d1 : w6.cell? ⟨w5.heap.size, 1, none⟩ = some (I L) := HQ5.out 1 (by omega)
  have d2 : w6.cell? ⟨w5.heap.size, 2, none⟩ = some (I G) := HQ5.out 2 (by omega)
  go_wp2_with (go_at_call 9; refine (HRt.out w6).mono ?_; rintro e w7 ⟨rfl, hb7⟩; have HB7 := Lib.hid (HBq.out.trans (hb7.mono HBq.out.size)); clear hb7)
  go_ret
  exact ⟨rfl, HB7.out⟩

set_option maxHeartbeats 4000000 in
theorem opens_c0 (D L G : Nat) (dr bl ca : Int) (D' L' G' : Int) (w : World) (hg : Laid w) (n m : Nat) (hn : n < 20) (hm : m < 40) (en : wrap64 ((IntKind.u64.wrap dr).tmod 20) = (n : Int)) (em : wrap64 ((IntKind.u64.wrap bl).tmod 40) = (m : Int)) (hR : Right D L G) (hc : ca < 0) :
    Calls Tryz.prog 3 #[PV D L G, I dr, I bl, I ca, PV D' L' G'] w (LawTrue w) := by
  have HG := Lib.hid hg
  have HO := Lib.hid (fun V a => sOpen_bad V a D L G ca 1 fun W _ => opnF_cache W a D L G ca hR (by omega))
  have HRt := Lib.hid (fun w => rightY hR w)
  have b1 : decide (ca < 0) = true := decide_eq_true hc
  clear hR hc
  clear hg
  have HBx := Lib.hid (show Below w.heap.size w ((w.alloc (.cells #[I D, I L, I G] 23)).alloc (.cells #[I D', I L', I G'] 23)) from ((Below.refl _ w).alloc (Nat.le_refl _) _).alloc (by simp) _)
  have HPx := Lib.hid (show Rd ((w.alloc (.cells #[I D, I L, I G] 23)).alloc (.cells #[I D', I L', I G'] 23)) w.heap.size 0 3 (pcI D L G) from (pcI_new w D L G 23).later ((Below.refl _ _).alloc (Nat.le_refl _) _))
  have HEn := Lib.hid en
  have HEm := Lib.hid em
  clear en em
  go_enter Tryz.func3, Tryz.ntmps3
  go_upto_region 3 with fail
  rw [HEn.out, HEm.out]
  generalize (w.alloc (.cells #[.int .i64 D, .int .i64 L, .int .i64 G] 23)).alloc (.cells #[.int .i64 D', .int .i64 L', .int .i64 G'] 23) = w1 at *
  go_upto_region 4 with (go_at_call 5; refine (newArray_any n m (by omega) (by omega) w1).mono ?_; rintro e w2 ⟨l, rfl, hA2, hb2, ho2⟩)
  have HB2 := Lib.hid (HBx.out.trans (hb2.mono HBx.out.size))
  have HP2 := Lib.hid (HPx.out.later hb2)
  have HA2 := Lib.hid hA2
  clear hb2 ho2 HBx HPx hA2
  have c0 : w2.cell? ⟨w.heap.size, 0, none⟩ = some (I D) := HP2.out 0 (by omega)
  have c1 : w2.cell? ⟨w.heap.size, 1, none⟩ = some (I L) := HP2.out 1 (by omega)
  have c2 : w2.cell? ⟨w.heap.size, 2, none⟩ = some (I G) := HP2.out 2 (by omega)
  go_upto_region 5 with (go_at_call 6; refine (HO.out w2 _).mono ?_; rintro e w3 ⟨rfl, hb3⟩)
  have HB3 := Lib.hid (HB2.out.trans (hb3.mono HB2.out.size))
  have HP3 := Lib.hid (HP2.out.later hb3)
  clear hb3 c0 c1 c2 HB2 HP2
  simp only [errV]
  go_upto_region 6 with (go_at_call 7; refine (tell_errno 1 w3 (HG.out.later HB3.out)).mono ?_; rintro e w4 ⟨rfl, hb4⟩)
  have HB4 := Lib.hid (HB3.out.trans (hb4.mono HB3.out.size))
  have HP4 := Lib.hid (HP3.out.later hb4)
  clear hb4 HB3 HP3
  have c0 : w4.cell? ⟨w.heap.size, 0, none⟩ = some (I D) := HP4.out 0 (by omega)
  have c1 : w4.cell? ⟨w.heap.size, 1, none⟩ = some (I L) := HP4.out 1 (by omega)
  have c2 : w4.cell? ⟨w.heap.size, 2, none⟩ = some (I G) := HP4.out 2 (by omega)
  go_upto_region 7 with (go_at_call 8; refine (theirs_any D L G w4).mono ?_; rintro e w5 ⟨rfl, hb5⟩)
  have HB5 := Lib.hid (HB4.out.trans (hb5.mono HB4.out.size))
  clear hb5 c0 c1 c2 HB4 HP4
  have HQ5 := Lib.hid (pcI_new w5 D L G 36)
  have HBq := Lib.hid ((HB5.out.trans (((Below.refl _ w5).alloc (Nat.le_refl _) (.cells #[I D, I L, I G] 36)).mono HB5.out.size)))
  generalize w5.alloc (.cells #[.int .i64 D, .int .i64 L, .int .i64 G] 36) = w6 at *
  have d0 : w6.cell? ⟨w5.heap.size, 0, none⟩ = some (I D) := HQ5.out 0 (by omega)
  have d1 : w6.cell? ⟨w5.heap.size, 1, none⟩ = some (I L) := HQ5.out 1 (by omega)
  have d2 : w6.cell? ⟨w5.heap.size, 2, none⟩ = some (I G) := HQ5.out 2 (by omega)
  go_wp2_with (go_at_call 9; refine (HRt.out w6).mono ?_; rintro e w7 ⟨rfl, hb7⟩; have HB7 := Lib.hid (HBq.out.trans (hb7.mono HBq.out.size)); clear hb7)
  go_ret
  exact ⟨rfl, HB7.out⟩

set_option maxHeartbeats 4000000 in
theorem opens_c1 (D L G : Nat) (dr bl ca : Int) (D' L' G' : Int) (w : World) (hg : Laid w) (n m : Nat) (hn : n < 20) (hm : m < 40) (en : wrap64 ((IntKind.u64.wrap dr).tmod 20) = (n : Int)) (em : wrap64 ((IntKind.u64.wrap bl).tmod 40) = (m : Int)) (hR : Right D L G) (hc : 64 < ca) :
    Calls Tryz.prog 3 #[PV D L G, I dr, I bl, I ca, PV D' L' G'] w (LawTrue w) := by
  have HG := Lib.hid hg
  have HO := Lib.hid (fun V a => sOpen_bad V a D L G ca 1 fun W _ => opnF_cache W a D L G ca hR (by omega))
  have HRt := Lib.hid (fun w => rightY hR w)
  have b1 : decide (ca < 0) = false := decide_eq_false (by omega)
  have b2 : decide (64 < ca) = true := decide_eq_true hc
  clear hR hc
  clear hg
  have HBx := Lib.hid (show Below w.heap.size w ((w.alloc (.cells #[I D, I L, I G] 23)).alloc (.cells #[I D', I L', I G'] 23)) from ((Below.refl _ w).alloc (Nat.le_refl _) _).alloc (by simp) _)
  have HPx := Lib.hid (show Rd ((w.alloc (.cells #[I D, I L, I G] 23)).alloc (.cells #[I D', I L', I G'] 23)) w.heap.size 0 3 (pcI D L G) from (pcI_new w D L G 23).later ((Below.refl _ _).alloc (Nat.le_refl _) _))
  have HEn := Lib.hid en
  have HEm := Lib.hid em
  clear en em
  go_enter Tryz.func3, Tryz.ntmps3
  go_upto_region 3 with fail
  rw [HEn.out, HEm.out]
  generalize (w.alloc (.cells #[.int .i64 D, .int .i64 L, .int .i64 G] 23)).alloc (.cells #[.int .i64 D', .int .i64 L', .int .i64 G'] 23) = w1 at *
  go_upto_region 4 with (go_at_call 5; refine (newArray_any n m (by omega) (by omega) w1).mono ?_; rintro e w2 ⟨l, rfl, hA2, hb2, ho2⟩)
  have HB2 := Lib.hid (HBx.out.trans (hb2.mono HBx.out.size))
  have HP2 := Lib.hid (HPx.out.later hb2)
  have HA2 := Lib.hid hA2
  clear hb2 ho2 HBx HPx hA2
  have c0 : w2.cell? ⟨w.heap.size, 0, none⟩ = some (I D) := HP2.out 0 (by omega)
  have c1 : w2.cell? ⟨w.heap.size, 1, none⟩ = some (I L) := HP2.out 1 (by omega)
  have c2 : w2.cell? ⟨w.heap.size, 2, none⟩ = some (I G) := HP2.out 2 (by omega)
  go_upto_region 5 with (go_at_call 6; refine (HO.out w2 _).mono ?_; rintro e w3 ⟨rfl, hb3⟩)
  have HB3 := Lib.hid (HB2.out.trans (hb3.mono HB2.out.size))
  have HP3 := Lib.hid (HP2.out.later hb3)
  clear hb3 c0 c1 c2 HB2 HP2
  simp only [errV]
  go_upto_region 6 with (go_at_call 7; refine (tell_errno 1 w3 (HG.out.later HB3.out)).mono ?_; rintro e w4 ⟨rfl, hb4⟩)
  have HB4 := Lib.hid (HB3.out.trans (hb4.mono HB3.out.size))
  have HP4 := Lib.hid (HP3.out.later hb4)
  clear hb4 HB3 HP3
  have c0 : w4.cell? ⟨w.heap.size, 0, none⟩ = some (I D) := HP4.out 0 (by omega)
  have c1 : w4.cell? ⟨w.heap.size, 1, none⟩ = some (I L) := HP4.out 1 (by omega)
  have c2 : w4.cell? ⟨w.heap.size, 2, none⟩ = some (I G) := HP4.out 2 (by omega)
  go_upto_region 7 with (go_at_call 8; refine (theirs_any D L G w4).mono ?_; rintro e w5 ⟨rfl, hb5⟩)
  have HB5 := Lib.hid (HB4.out.trans (hb5.mono HB4.out.size))
  clear hb5 c0 c1 c2 HB4 HP4
  have HQ5 := Lib.hid (pcI_new w5 D L G 36)
  have HBq := Lib.hid ((HB5.out.trans (((Below.refl _ w5).alloc (Nat.le_refl _) (.cells #[I D, I L, I G] 36)).mono HB5.out.size)))
  generalize w5.alloc (.cells #[.int .i64 D, .int .i64 L, .int .i64 G] 36) = w6 at *
  have d0 : w6.cell? ⟨w5.heap.size, 0, none⟩ = some (I D) := HQ5.out 0 (by omega)
  have d1 : w6.cell? ⟨w5.heap.size, 1, none⟩ = some (I L) := HQ5.out 1 (by omega)
  have d2 : w6.cell? ⟨w5.heap.size, 2, none⟩ = some (I G) := HQ5.out 2 (by omega)
  go_wp2_with (go_at_call 9; refine (HRt.out w6).mono ?_; rintro e w7 ⟨rfl, hb7⟩; have HB7 := Lib.hid (HBq.out.trans (hb7.mono HBq.out.size)); clear hb7)
  go_ret
  exact ⟨rfl, HB7.out⟩

set_option maxHeartbeats 4000000 in
theorem opens_dr (D L G c : Nat) (dr bl : Int) (D' L' G' : Int) (w : World) (hg : Laid w) (n m : Nat) (hn : n < 20) (hm : m < 40) (en : wrap64 ((IntKind.u64.wrap dr).tmod 20) = (n : Int)) (em : wrap64 ((IntKind.u64.wrap bl).tmod 40) = (m : Int)) (hR : Right D L G) (hc : c ≤ 64) (hN : n ≠ D + L + G) :
    Calls Tryz.prog 3 #[PV D L G, I dr, I bl, I c, PV D' L' G'] w (LawTrue w) := by
  have HG := Lib.hid hg
  have HO := Lib.hid (fun V l (H : ArrAt V l (arr0 n m)) => sOpen_bad V (.pointer (some ⟨l.ab, 0, none⟩)) D L G c 5 fun W hb => opnF_drives W l (arr0 n m) D L G c (H.later hb) hR hc hN)
  have HRt := Lib.hid (fun w => rightY hR w)
  have HR := Lib.hid hR
  have b1 : decide ((c : Int) < 0) = false := decide_eq_false (by omega)
  have b2 : decide (64 < (c : Int)) = false := decide_eq_false (by omega)
  have b3 : ((n : Int) != (D : Int) + L + G) = true := by simp; omega
  clear hR hc hN
  clear hg
  have HBx := Lib.hid (show Below w.heap.size w ((w.alloc (.cells #[I D, I L, I G] 23)).alloc (.cells #[I D', I L', I G'] 23)) from ((Below.refl _ w).alloc (Nat.le_refl _) _).alloc (by simp) _)
  have HPx := Lib.hid (show Rd ((w.alloc (.cells #[I D, I L, I G] 23)).alloc (.cells #[I D', I L', I G'] 23)) w.heap.size 0 3 (pcI D L G) from (pcI_new w D L G 23).later ((Below.refl _ _).alloc (Nat.le_refl _) _))
  have HEn := Lib.hid en
  have HEm := Lib.hid em
  clear en em
  go_enter Tryz.func3, Tryz.ntmps3
  go_upto_region 3 with fail
  rw [HEn.out, HEm.out]
  generalize (w.alloc (.cells #[.int .i64 D, .int .i64 L, .int .i64 G] 23)).alloc (.cells #[.int .i64 D', .int .i64 L', .int .i64 G'] 23) = w1 at *
  go_upto_region 4 with (go_at_call 5; refine (newArray_any n m (by omega) (by omega) w1).mono ?_; rintro e w2 ⟨l, rfl, hA2, hb2, ho2⟩)
  have HB2 := Lib.hid (HBx.out.trans (hb2.mono HBx.out.size))
  have HP2 := Lib.hid (HPx.out.later hb2)
  have HA2 := Lib.hid hA2
  clear hb2 ho2 HBx HPx hA2
  have c0 : w2.cell? ⟨w.heap.size, 0, none⟩ = some (I D) := HP2.out 0 (by omega)
  have c1 : w2.cell? ⟨w.heap.size, 1, none⟩ = some (I L) := HP2.out 1 (by omega)
  have c2 : w2.cell? ⟨w.heap.size, 2, none⟩ = some (I G) := HP2.out 2 (by omega)
  go_upto_region 5 with (go_at_call 6; refine (HO.out w2 l HA2.out).mono ?_; rintro e w3 ⟨rfl, hb3⟩)
  have HB3 := Lib.hid (HB2.out.trans (hb3.mono HB2.out.size))
  have HP3 := Lib.hid (HP2.out.later hb3)
  clear hb3 c0 c1 c2 HB2 HP2
  simp only [errV]
  go_upto_region 6 with (go_at_call 7; refine (tell_errno 5 w3 (HG.out.later HB3.out)).mono ?_; rintro e w4 ⟨rfl, hb4⟩)
  have HB4 := Lib.hid (HB3.out.trans (hb4.mono HB3.out.size))
  have HP4 := Lib.hid (HP3.out.later hb4)
  clear hb4 HB3 HP3
  have c0 : w4.cell? ⟨w.heap.size, 0, none⟩ = some (I D) := HP4.out 0 (by omega)
  have c1 : w4.cell? ⟨w.heap.size, 1, none⟩ = some (I L) := HP4.out 1 (by omega)
  have c2 : w4.cell? ⟨w.heap.size, 2, none⟩ = some (I G) := HP4.out 2 (by omega)
  go_upto_region 7 with (go_at_call 8; refine (theirs_any D L G w4).mono ?_; rintro e w5 ⟨rfl, hb5⟩)
  have HB5 := Lib.hid (HB4.out.trans (hb5.mono HB4.out.size))
  clear hb5 c0 c1 c2 HB4 HP4
  have HQ5 := Lib.hid (pcI_new w5 D L G 36)
  have HBq := Lib.hid ((HB5.out.trans (((Below.refl _ w5).alloc (Nat.le_refl _) (.cells #[I D, I L, I G] 36)).mono HB5.out.size)))
  generalize w5.alloc (.cells #[.int .i64 D, .int .i64 L, .int .i64 G] 36) = w6 at *
  have d0 : w6.cell? ⟨w5.heap.size, 0, none⟩ = some (I D) := HQ5.out 0 (by omega)
  have d1 : w6.cell? ⟨w5.heap.size, 1, none⟩ = some (I L) := HQ5.out 1 (by omega)
  have d2 : w6.cell? ⟨w5.heap.size, 2, none⟩ = some (I G) := HQ5.out 2 (by omega)
  go_upto_region 8 with (go_at_call 9; refine (HRt.out w6).mono ?_; rintro e w7 ⟨rfl, hb7⟩)
  have HB7 := Lib.hid (HBq.out.trans (hb7.mono HBq.out.size))
  have HQ7 := Lib.hid (HQ5.out.later hb7)
  clear hb7 d0 d1 d2 HBq HQ5
  have d0 : w7.cell? ⟨w5.heap.size, 0, none⟩ = some (I D) := HQ7.out 0 (by omega)
  have d1 : w7.cell? ⟨w5.heap.size, 1, none⟩ = some (I L) := HQ7.out 1 (by omega)
  have d2 : w7.cell? ⟨w5.heap.size, 2, none⟩ = some (I G) := HQ7.out 2 (by omega)
  have d3 := HR.out.sum
  have HSh := Lib.hid (refShards_any (D : Int) L G (by omega) w7)
  clear d3
  go_wp2_with (go_at_call 10; refine HSh.out.mono ?_; rintro e w8 ⟨rfl, hb8⟩; have HB8 := Lib.hid (HB7.out.trans (hb8.mono HB7.out.size)); clear hb8)
  go_ret
  exact ⟨rfl, HB8.out⟩

set_option maxHeartbeats 4000000 in
theorem opens_bl (D L G c : Nat) (dr bl : Int) (D' L' G' : Int) (w : World) (hg : Laid w) (n m : Nat) (hn : n < 20) (hm : m < 40) (en : wrap64 ((IntKind.u64.wrap dr).tmod 20) = (n : Int)) (em : wrap64 ((IntKind.u64.wrap bl).tmod 40) = (m : Int)) (hR : Right D L G) (hc : c ≤ 64) (hN : n = D + L + G) (h8 : m < 8) :
    Calls Tryz.prog 3 #[PV D L G, I dr, I bl, I c, PV D' L' G'] w (LawTrue w) := by
  have HG := Lib.hid hg
  have HO := Lib.hid (fun V l (H : ArrAt V l (arr0 n m)) => sOpen_bad V (.pointer (some ⟨l.ab, 0, none⟩)) D L G c 5 fun W hb => opnF_blocks W l (arr0 n m) D L G c (H.later hb) hR hc hN h8)
  have HRt := Lib.hid (fun w => rightY hR w)
  have HR := Lib.hid hR
  have b1 : decide ((c : Int) < 0) = false := decide_eq_false (by omega)
  have b2 : decide (64 < (c : Int)) = false := decide_eq_false (by omega)
  have b3 : ((n : Int) != (D : Int) + L + G) = false := by simp; omega
  have b4 : decide ((m : Int) < 8) = true := decide_eq_true (by omega)
  clear hR hc hN
  clear hg
  have HBx := Lib.hid (show Below w.heap.size w ((w.alloc (.cells #[I D, I L, I G] 23)).alloc (.cells #[I D', I L', I G'] 23)) from ((Below.refl _ w).alloc (Nat.le_refl _) _).alloc (by simp) _)
  have HPx := Lib.hid (show Rd ((w.alloc (.cells #[I D, I L, I G] 23)).alloc (.cells #[I D', I L', I G'] 23)) w.heap.size 0 3 (pcI D L G) from (pcI_new w D L G 23).later ((Below.refl _ _).alloc (Nat.le_refl _) _))
  have HEn := Lib.hid en
  have HEm := Lib.hid em
  clear en em
  go_enter Tryz.func3, Tryz.ntmps3
  go_upto_region 3 with fail
  rw [HEn.out, HEm.out]
  generalize (w.alloc (.cells #[.int .i64 D, .int .i64 L, .int .i64 G] 23)).alloc (.cells #[.int .i64 D', .int .i64 L', .int .i64 G'] 23) = w1 at *
  go_upto_region 4 with (go_at_call 5; refine (newArray_any n m (by omega) (by omega) w1).mono ?_; rintro e w2 ⟨l, rfl, hA2, hb2, ho2⟩)
  have HB2 := Lib.hid (HBx.out.trans (hb2.mono HBx.out.size))
  have HP2 := Lib.hid (HPx.out.later hb2)
  have HA2 := Lib.hid hA2
  clear hb2 ho2 HBx HPx hA2
  have c0 : w2.cell? ⟨w.heap.size, 0, none⟩ = some (I D) := HP2.out 0 (by omega)
  have c1 : w2.cell? ⟨w.heap.size, 1, none⟩ = some (I L) := HP2.out 1 (by omega)
  have c2 : w2.cell? ⟨w.heap.size, 2, none⟩ = some (I G) := HP2.out 2 (by omega)
  go_upto_region 5 with (go_at_call 6; refine (HO.out w2 l HA2.out).mono ?_; rintro e w3 ⟨rfl, hb3⟩)
  have HB3 := Lib.hid (HB2.out.trans (hb3.mono HB2.out.size))
  have HP3 := Lib.hid (HP2.out.later hb3)
  clear hb3 c0 c1 c2 HB2 HP2
  simp only [errV]
  go_upto_region 6 with (go_at_call 7; refine (tell_errno 5 w3 (HG.out.later HB3.out)).mono ?_; rintro e w4 ⟨rfl, hb4⟩)
  have HB4 := Lib.hid (HB3.out.trans (hb4.mono HB3.out.size))
  have HP4 := Lib.hid (HP3.out.later hb4)
  clear hb4 HB3 HP3
  have c0 : w4.cell? ⟨w.heap.size, 0, none⟩ = some (I D) := HP4.out 0 (by omega)
  have c1 : w4.cell? ⟨w.heap.size, 1, none⟩ = some (I L) := HP4.out 1 (by omega)
  have c2 : w4.cell? ⟨w.heap.size, 2, none⟩ = some (I G) := HP4.out 2 (by omega)
  go_upto_region 7 with (go_at_call 8; refine (theirs_any D L G w4).mono ?_; rintro e w5 ⟨rfl, hb5⟩)
  have HB5 := Lib.hid (HB4.out.trans (hb5.mono HB4.out.size))
  clear hb5 c0 c1 c2 HB4 HP4
  have HQ5 := Lib.hid (pcI_new w5 D L G 36)
  have HBq := Lib.hid ((HB5.out.trans (((Below.refl _ w5).alloc (Nat.le_refl _) (.cells #[I D, I L, I G] 36)).mono HB5.out.size)))
  generalize w5.alloc (.cells #[.int .i64 D, .int .i64 L, .int .i64 G] 36) = w6 at *
  have d0 : w6.cell? ⟨w5.heap.size, 0, none⟩ = some (I D) := HQ5.out 0 (by omega)
  have d1 : w6.cell? ⟨w5.heap.size, 1, none⟩ = some (I L) := HQ5.out 1 (by omega)
  have d2 : w6.cell? ⟨w5.heap.size, 2, none⟩ = some (I G) := HQ5.out 2 (by omega)
  go_upto_region 8 with (go_at_call 9; refine (HRt.out w6).mono ?_; rintro e w7 ⟨rfl, hb7⟩)
  have HB7 := Lib.hid (HBq.out.trans (hb7.mono HBq.out.size))
  have HQ7 := Lib.hid (HQ5.out.later hb7)
  clear hb7 d0 d1 d2 HBq HQ5
  have d0 : w7.cell? ⟨w5.heap.size, 0, none⟩ = some (I D) := HQ7.out 0 (by omega)
  have d1 : w7.cell? ⟨w5.heap.size, 1, none⟩ = some (I L) := HQ7.out 1 (by omega)
  have d2 : w7.cell? ⟨w5.heap.size, 2, none⟩ = some (I G) := HQ7.out 2 (by omega)
  have d3 := HR.out.sum
  have HSh := Lib.hid (refShards_any (D : Int) L G (by omega) w7)
  clear d3
  go_wp2_with (go_at_call 10; refine HSh.out.mono ?_; rintro e w8 ⟨rfl, hb8⟩; have HB8 := Lib.hid (HB7.out.trans (hb8.mono HB7.out.size)); clear hb8)
  go_ret
  exact ⟨rfl, HB8.out⟩

end Go.Proofs.YtgelingkifafeaaGreatDoor
