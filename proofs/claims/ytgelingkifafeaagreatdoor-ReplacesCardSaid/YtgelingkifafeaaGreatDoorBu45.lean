import Derived.Test.YtgelingkifafeaaGreatDoorBu11
import Derived.Test.YtgelingkifafeaaGreatDoorBu43
import Derived.Test.YtgelingkifafeaaGreatDoorBu44
/- The law Opens: what is opened. -/
namespace Go.Proofs.YtgelingkifafeaaGreatDoor
open Go Go.RowKit Go.Proofs Lin
set_option maxRecDepth 100000
set_option linter.unusedVariables false

/-- The world of the law behind Open. -/
structure OSt (w V : World) (sb ar cb kb : Nat) (l : ArrL) (A : Arr) (D L G : Nat) (cv : Value) (β : Nat → Nat) (D' L' G' : Int) : Prop where
  below : Below w.heap.size w V
  p : Rd V w.heap.size 0 3 (pcI D L G)
  q : Rd V (w.heap.size + 1) 0 3 (pcI D' L' G')
  row : Row V sb 0 1 (fun _ => .pointer (some ⟨ar, 0, none⟩))
  arc : ArcAt V ar cb kb l A D L G cv β (opnHd D L G) (.slice none 0 0) (.slice none 0 0) .nilIface
theorem OSt.later {w V V' : World} {sb ar cb kb : Nat} {l : ArrL} {A : Arr} {D L G : Nat} {cv : Value} {β : Nat → Nat} {D' L' G' : Int} (h : OSt w V sb ar cb kb l A D L G cv β D' L' G') (hb : Below V.heap.size V V') : OSt w V' sb ar cb kb l A D L G cv β D' L' G' :=
  ⟨h.below.trans (hb.mono h.below.size), h.p.later hb, h.q.later hb, h.row.later hb, h.arc.later hb⟩

theorem first_any (w : World) (l : ArrL) (n m D L G c : Nat) (H : ArrAt w l (arr0 n m)) (hR : Right D L G) (hc : c ≤ 64) (hN : n = D + L + G) (h8 : 8 ≤ m) :
    Calls Tryz.prog 6 #[.pointer (some ⟨l.ab, 0, none⟩), PV D L G, .agg #[I c]] w fun e w' => ∃ A sb ar cb kb cv β, e = .returned (.tuple #[.pointer (some ⟨sb, 0, none⟩), .nilIface]) ∧ Upd (l.own n) w w' ∧ Row w' sb 0 1 (fun _ => .pointer (some ⟨ar, 0, none⟩)) ∧
      ArcAt w' ar cb kb l A D L G cv β (opnHd D L G) (.slice none 0 0) (.slice none 0 0) .nilIface ∧ Sd A n (fun d => Frm.blk (cFrm (opnHd D L G) d)) ∧ A.m = m := by
  obtain ⟨A, e, hS⟩ := opn_first hR (by rw [← hN]; exact sd_arr0 n m (by omega))
  have hf : (hdTo (arr0 n m) (D + L + G)).found = true → (hdTo (arr0 n m) (D + L + G)).latest.fits D L G = true → (hdTo (arr0 n m) (D + L + G)).latest.size = 0 := by
    intro h1
    obtain ⟨A', e', _⟩ := hdTo_zero (A := arr0 n m) (by rw [← hN]; exact sd_arr0 n m (by omega)) (D + L + G) (Nat.le_refl _)
    rw [e'] at h1; exact absurd h1 (by simp)
  have hm := opnTo_m D L G hd0 (hdTo (arr0 n m) (D + L + G))
  rw [e, hdTo_m] at hm
  refine (sOpen_any w l (arr0 n m) D L G c H (by show (-1 : Int) < 0; decide) hR hc hN h8 hf).mono ?_
  rintro e2 w2 ⟨hu, h⟩
  rw [e] at h
  obtain ⟨sb, ar, cb, kb, cv, β, rfl, hr, hA, _, _⟩ := h
  exact ⟨A, sb, ar, cb, kb, cv, β, rfl, hu, hr, hA, by rw [hN]; exact hS, hm⟩

theorem eq_par (a b c x y z : Nat) (w : World) : (binOp .eql 23 (.agg #[I a, I b, I c]) (.agg #[I x, I y, I z])).run Tryz.prog w = .ok (.bool (decide (a = x ∧ b = y ∧ c = z))) w := by
  by_cases e : a = x ∧ b = y ∧ c = z
  · obtain ⟨rfl, rfl, rfl⟩ := e; simp [go_sem]
  · have hd : decide (a = x ∧ b = y ∧ c = z) = false := decide_eq_false e
    rw [hd]
    simp [go_sem]
    intro e1 e2 e3
    exact e ⟨by omega, by omega, by omega⟩

set_option maxHeartbeats 4000000 in
theorem opens_ok (D L G c : Nat) (dr bl : Int) (D' L' G' : Int) (w : World) (hg : Laid w) (n m : Nat) (hn : n < 20) (hm : m < 40) (en : wrap64 ((IntKind.u64.wrap dr).tmod 20) = (n : Int)) (em : wrap64 ((IntKind.u64.wrap bl).tmod 40) = (m : Int)) (hR : Right D L G) (hc : c ≤ 64) (hN : n = D + L + G) (h8 : 8 ≤ m) :
    Calls Tryz.prog 3 #[PV D L G, I dr, I bl, I c, PV D' L' G'] w (LawTrue w) := by
  have HG := Lib.hid hg
  have HO := Lib.hid (fun V l (H : ArrAt V l (arr0 n m)) => first_any V l n m D L G c H hR hc hN h8)
  have HRt := Lib.hid (fun w => rightY hR w)
  have HR := Lib.hid hR
  have b1 : decide ((c : Int) < 0) = false := decide_eq_false (by omega)
  have b2 : decide (64 < (c : Int)) = false := decide_eq_false (by omega)
  have b3 : ((n : Int) != (D : Int) + L + G) = false := by simp; omega
  have b4 : decide ((m : Int) < 8) = false := decide_eq_false (by omega)
  have HN := Lib.hid hN
  have H8 := Lib.hid h8
  clear hR hc hN
  clear hg
  have HBx := Lib.hid (show Below w.heap.size w ((w.alloc (.cells #[I D, I L, I G] 23)).alloc (.cells #[I D', I L', I G'] 23)) from ((Below.refl _ w).alloc (Nat.le_refl _) _).alloc (by simp) _)
  have HPx := Lib.hid (show Rd ((w.alloc (.cells #[I D, I L, I G] 23)).alloc (.cells #[I D', I L', I G'] 23)) w.heap.size 0 3 (pcI D L G) from (pcI_new w D L G 23).later ((Below.refl _ _).alloc (Nat.le_refl _) _))
  have HQx := Lib.hid (show Rd ((w.alloc (.cells #[I D, I L, I G] 23)).alloc (.cells #[I D', I L', I G'] 23)) (w.heap.size + 1) 0 3 (pcI D' L' G') from by
    have h := pcI_new (w.alloc (.cells #[I D, I L, I G] 23)) D' L' G' 23
    rwa [World.size_alloc] at h)
  have HEn := Lib.hid en
  have HEm := Lib.hid em
  clear en em
  go_enter Tryz.func3, Tryz.ntmps3
  go_upto_region 3 with fail
  rw [HEn.out, HEm.out]
  generalize (w.alloc (.cells #[.int .i64 D, .int .i64 L, .int .i64 G] 23)).alloc (.cells #[.int .i64 D', .int .i64 L', .int .i64 G'] 23) = w1 at *
  go_upto_region 4 with (go_at_call 5; refine (newArray_any n m (by omega) (by omega) w1).mono ?_; rintro e w2 ⟨l, rfl, hA2, hb2, ho2⟩)
  have HB2 := Lib.hid (HBx.out.trans (hb2.mono HBx.out.size))
  have HP2 := Lib.hid (HPx.out.later hb2)
  have HQ2 := Lib.hid (HQx.out.later hb2)
  have HA2 := Lib.hid hA2
  have HOw := Lib.hid (show ∀ b, l.own n b → w.heap.size + 2 ≤ b from fun b hb => by have := ho2 b hb; have := HBx.out.size; have := (HQx.out.lt (by omega)); omega)
  clear hb2 ho2 HBx HPx HQx hA2
  have c0 : w2.cell? ⟨w.heap.size, 0, none⟩ = some (I D) := HP2.out 0 (by omega)
  have c1 : w2.cell? ⟨w.heap.size, 1, none⟩ = some (I L) := HP2.out 1 (by omega)
  have c2 : w2.cell? ⟨w.heap.size, 2, none⟩ = some (I G) := HP2.out 2 (by omega)
  go_upto_region 5 with (go_at_call 6; refine (HO.out w2 l HA2.out).mono ?_; rintro e w3 ⟨A, sb, ar, cb, kb, cv, β, rfl, hu3, hr3, hA3, hS3, hm3⟩)
  have HS := Lib.hid hS3
  have Hm := Lib.hid hm3
  have HK3 := Lib.hid (show OSt w w3 sb ar cb kb l A D L G cv β D' L' G' from ⟨Below.upd HB2.out hu3 (fun b hb => by have := HOw.out b hb; omega) HB2.out.size, HP2.out.upd hu3 (fun _ hb => by have := HOw.out _ hb; omega), HQ2.out.upd hu3 (fun _ hb => by have := HOw.out _ hb; omega), hr3, hA3⟩)
  clear hu3 hr3 hA3 hS3 hm3 c0 c1 c2 HB2 HP2 HQ2 HA2
  go_upto_region 6 with (go_at_call 7; refine (tell_nil w3).mono ?_; rintro e w4 ⟨rfl, hb4⟩)
  have HK4 := Lib.hid (HK3.out.later hb4)
  clear hb4 HK3
  have c0 : w4.cell? ⟨w.heap.size, 0, none⟩ = some (I D) := HK4.out.p 0 (by omega)
  have c1 : w4.cell? ⟨w.heap.size, 1, none⟩ = some (I L) := HK4.out.p 1 (by omega)
  have c2 : w4.cell? ⟨w.heap.size, 2, none⟩ = some (I G) := HK4.out.p 2 (by omega)
  go_upto_region 7 with (go_at_call 8; refine (theirs_any D L G w4).mono ?_; rintro e w5 ⟨rfl, hb5⟩)
  have hb6 : Below w5.heap.size w5 (w5.alloc (.cells #[I D, I L, I G] 36)) := (Below.refl _ w5).alloc (Nat.le_refl _) _
  have HK6 := Lib.hid ((HK4.out.later hb5).later hb6)
  have HQ6 := Lib.hid (pcI_new w5 D L G 36)
  clear hb5 hb6 c0 c1 c2 HK4
  generalize w5.alloc (.cells #[.int .i64 D, .int .i64 L, .int .i64 G] 36) = w6 at *
  have d0 : w6.cell? ⟨w5.heap.size, 0, none⟩ = some (I D) := HQ6.out 0 (by omega)
  have d1 : w6.cell? ⟨w5.heap.size, 1, none⟩ = some (I L) := HQ6.out 1 (by omega)
  have d2 : w6.cell? ⟨w5.heap.size, 2, none⟩ = some (I G) := HQ6.out 2 (by omega)
  go_upto_region 8 with (go_at_call 9; refine (HRt.out w6).mono ?_; rintro e w7 ⟨rfl, hb7⟩)
  have HK7 := Lib.hid (HK6.out.later hb7)
  have HQ7 := Lib.hid (HQ6.out.later hb7)
  clear hb7 d0 d1 d2 HK6 HQ6
  have d0 : w7.cell? ⟨w5.heap.size, 0, none⟩ = some (I D) := HQ7.out 0 (by omega)
  have d1 : w7.cell? ⟨w5.heap.size, 1, none⟩ = some (I L) := HQ7.out 1 (by omega)
  have d2 : w7.cell? ⟨w5.heap.size, 2, none⟩ = some (I G) := HQ7.out 2 (by omega)
  have d3 := HR.out.sum
  have HSh := Lib.hid (refShards_any (D : Int) L G (by omega) w7)
  clear d3
  go_upto_region 13 with (go_at_call 10; refine HSh.out.mono ?_; rintro e w8 ⟨rfl, hb8⟩)
  have HK8 := Lib.hid (HK7.out.later hb8)
  clear hb8 d0 d1 d2 HK7 HQ7 HSh
  have HLs := Lib.hid (sList0_any w8 sb ar cb kb l A D L G cv β (opnHd D L G) (.slice none 0 0) HK8.out.arc (HK8.out.row.cell 0 (by omega)))
  go_upto_region 18 with (go_at_call 11; refine HLs.out.mono ?_; rintro e w9 ⟨rfl, rfl⟩)
  go_upto_region 20 with (go_at_call 7; refine (tell_nil w9).mono ?_; rintro e w9b ⟨rfl, hb9⟩)
  have HK9 := Lib.hid (HK8.out.later hb9)
  clear hb9 HK8 HLs
  have c0 : w9b.cell? ⟨w.heap.size + 1, 0, none⟩ = some (I D') := HK9.out.q 0 (by omega)
  have c1 : w9b.cell? ⟨w.heap.size + 1, 1, none⟩ = some (I L') := HK9.out.q 1 (by omega)
  have c2 : w9b.cell? ⟨w.heap.size + 1, 2, none⟩ = some (I G') := HK9.out.q 2 (by omega)
  go_upto_region 21 with (go_at_call 8; refine (theirs_any D' L' G' w9b).mono ?_; rintro e w10 ⟨rfl, hb10⟩)
  have hb11 : Below w10.heap.size w10 (w10.alloc (.cells #[I D', I L', I G'] 36)) := (Below.refl _ w10).alloc (Nat.le_refl _) _
  have HK11 := Lib.hid ((HK9.out.later hb10).later hb11)
  have HQ11 := Lib.hid (pcI_new w10 D' L' G' 36)
  clear hb10 hb11 c0 c1 c2 HK9
  generalize w10.alloc (.cells #[.int .i64 D', .int .i64 L', .int .i64 G'] 36) = w11 at *
  have d0 : w11.cell? ⟨w10.heap.size, 0, none⟩ = some (I D') := HQ11.out 0 (by omega)
  have d1 : w11.cell? ⟨w10.heap.size, 1, none⟩ = some (I L') := HQ11.out 1 (by omega)
  have d2 : w11.cell? ⟨w10.heap.size, 2, none⟩ = some (I G') := HQ11.out 2 (by omega)
  by_cases hR' : RightI D' L' G'
  case neg =>
    have HRn := Lib.hid (rightN hR' w11)
    clear hR'
    go_wp2_with (go_at_call 9; refine HRn.out.mono ?_; rintro e w12 ⟨rfl, hb12⟩; have HB12 := Lib.hid (HK11.out.later hb12).below; clear hb12)
    go_ret
    exact ⟨rfl, HB12.out⟩
  obtain ⟨D', L', G', rfl, rfl, rfl, hR'⟩ := hR'
  have HRy := Lib.hid (rightY hR' w11)
  have HR' := Lib.hid hR'
  clear hR'
  go_upto_region 22 with (go_at_call 9; refine HRy.out.mono ?_; rintro e w12 ⟨rfl, hb12⟩)
  have HK12 := Lib.hid (HK11.out.later hb12)
  have HQ12 := Lib.hid (HQ11.out.later hb12)
  clear hb12 d0 d1 d2 HK11 HQ11 HRy
  have d0 : w12.cell? ⟨w10.heap.size, 0, none⟩ = some (I D') := HQ12.out 0 (by omega)
  have d1 : w12.cell? ⟨w10.heap.size, 1, none⟩ = some (I L') := HQ12.out 1 (by omega)
  have d2 : w12.cell? ⟨w10.heap.size, 2, none⟩ = some (I G') := HQ12.out 2 (by omega)
  have d3 := HR'.out.sum
  have HSh := Lib.hid (refShards_any (D' : Int) L' G' (by omega) w12)
  clear d3
  by_cases hN2 : n = D' + L' + G'
  case neg =>
    have b5 : ((D' : Int) + L' + G' != (n : Int)) = true := by simp; omega
    go_wp2_with (go_at_call 10; refine HSh.out.mono ?_; rintro e w13 ⟨rfl, hb13⟩; have HB13 := Lib.hid (HK12.out.later hb13).below; clear hb13)
    go_ret
    exact ⟨rfl, HB13.out⟩
  have b5 : ((D' : Int) + L' + G' != (n : Int)) = false := by simp; omega
  go_upto_region 24 with (go_at_call 10; refine HSh.out.mono ?_; rintro e w13 ⟨rfl, hb13⟩)
  have HK13 := Lib.hid (HK12.out.later hb13)
  clear hb13 d0 d1 d2 HK12 HQ12 HSh
  obtain ⟨A2, hf, hl, hno, hyes⟩ := opn_again hN2 HR'.out (h := opnHd D L G) (by have := HR.out.sum; exact ⟨by show D < 256; omega, by show L < 256; omega, by show G < 256; omega, by show (0:Nat) < _; decide, by show (0:Nat) < _; decide, by show (0:Nat) < _; decide, by show (0:Nat) < _; decide⟩) HS.out
  rw [hN2] at hf hl hno hyes
  have hAn : A.n = D' + L' + G' := by rw [← hN2]; exact HS.out.n
  have HOp := Lib.hid (sOpen_any w13 l A D' L' G' 0 HK13.out.arc.arr HS.out.wait HR'.out (by omega) hAn (by have := Hm.out; omega) (fun _ _ => by rw [hl]; rfl))
  have c0 : w13.cell? ⟨w.heap.size + 1, 0, none⟩ = some (I D') := HK13.out.q 0 (by omega)
  have c1 : w13.cell? ⟨w.heap.size + 1, 1, none⟩ = some (I L') := HK13.out.q 1 (by omega)
  have c2 : w13.cell? ⟨w.heap.size + 1, 2, none⟩ = some (I G') := HK13.out.q 2 (by omega)
  have HNo := Lib.hid hno
  have HYes := Lib.hid hyes
  clear hno hyes hf hl hN2 hAn
  cases hfit : (opnHd D L G).fits D' L' G' with
  | true =>
    obtain ⟨A3, e3⟩ := HYes.out hfit
    have HOp2 := Lib.hid HOp.out
    rw [e3] at HOp2
    go_upto_region 25 with (go_at_call 6; refine HOp2.out.mono ?_; rintro e w14 ⟨hu14, sb2, ar2, cb2, kb2, cv2, β2, rfl, _, _, _, _⟩)
    have HB14 := Lib.hid (Below.upd HK13.out.below hu14 (fun b hb => by rw [HS.out.n] at hb; have := HOw.out b hb; omega) HK13.out.below.size)
    have HP14 := Lib.hid (HK13.out.p.upd hu14 (fun _ hb => by rw [HS.out.n] at hb; have := HOw.out _ hb; omega))
    have HQ14 := Lib.hid (HK13.out.q.upd hu14 (fun _ hb => by rw [HS.out.n] at hb; have := HOw.out _ hb; omega))
    clear hu14 c0 c1 c2
    go_upto_region 26 with (go_at_call 7; refine (tell_nil w14).mono ?_; rintro e w15 ⟨rfl, hb15⟩)
    have HB15 := Lib.hid (HB14.out.trans (hb15.mono HB14.out.size))
    have HP15 := Lib.hid (HP14.out.later hb15)
    have HQ15 := Lib.hid (HQ14.out.later hb15)
    clear hb15 HB14 HP14 HQ14
    have c0 : w15.cell? ⟨w.heap.size, 0, none⟩ = some (I D) := HP15.out 0 (by omega)
    have c1 : w15.cell? ⟨w.heap.size, 1, none⟩ = some (I L) := HP15.out 1 (by omega)
    have c2 : w15.cell? ⟨w.heap.size, 2, none⟩ = some (I G) := HP15.out 2 (by omega)
    have d0 : w15.cell? ⟨w.heap.size + 1, 0, none⟩ = some (I D') := HQ15.out 0 (by omega)
    have d1 : w15.cell? ⟨w.heap.size + 1, 1, none⟩ = some (I L') := HQ15.out 1 (by omega)
    have d2 : w15.cell? ⟨w.heap.size + 1, 2, none⟩ = some (I G') := HQ15.out 2 (by omega)
    have he := fun V => eq_par D' L' G' D L G V
    rw [show decide (D' = D ∧ L' = L ∧ G' = G) = true from by unfold Hd.fits opnHd at hfit; have h := of_decide_eq_true hfit; exact decide_eq_true ⟨h.1.symm, h.2.1.symm, h.2.2.symm⟩] at he
    go_wp2_with fail
    go_ret
    exact ⟨rfl, HB15.out⟩
  | false =>
    have e3 := HNo.out hfit
    have HOp2 := Lib.hid HOp.out
    rw [e3] at HOp2
    go_upto_region 25 with (go_at_call 6; refine HOp2.out.mono ?_; rintro e w14 ⟨hu14, rfl, _⟩)
    have HB14 := Lib.hid (Below.upd HK13.out.below hu14 (fun b hb => by rw [HS.out.n] at hb; have := HOw.out b hb; omega) HK13.out.below.size)
    have HP14 := Lib.hid (HK13.out.p.upd hu14 (fun _ hb => by rw [HS.out.n] at hb; have := HOw.out _ hb; omega))
    have HQ14 := Lib.hid (HK13.out.q.upd hu14 (fun _ hb => by rw [HS.out.n] at hb; have := HOw.out _ hb; omega))
    clear hu14 c0 c1 c2
    simp only [errV]
    go_upto_region 26 with (go_at_call 7; refine (tell_errno 1 w14 (HG.out.later HB14.out)).mono ?_; rintro e w15 ⟨rfl, hb15⟩)
    have HB15 := Lib.hid (HB14.out.trans (hb15.mono HB14.out.size))
    have HP15 := Lib.hid (HP14.out.later hb15)
    have HQ15 := Lib.hid (HQ14.out.later hb15)
    clear hb15 HB14 HP14 HQ14
    have c0 : w15.cell? ⟨w.heap.size, 0, none⟩ = some (I D) := HP15.out 0 (by omega)
    have c1 : w15.cell? ⟨w.heap.size, 1, none⟩ = some (I L) := HP15.out 1 (by omega)
    have c2 : w15.cell? ⟨w.heap.size, 2, none⟩ = some (I G) := HP15.out 2 (by omega)
    have d0 : w15.cell? ⟨w.heap.size + 1, 0, none⟩ = some (I D') := HQ15.out 0 (by omega)
    have d1 : w15.cell? ⟨w.heap.size + 1, 1, none⟩ = some (I L') := HQ15.out 1 (by omega)
    have d2 : w15.cell? ⟨w.heap.size + 1, 2, none⟩ = some (I G') := HQ15.out 2 (by omega)
    have he := fun V => eq_par D' L' G' D L G V
    rw [show decide (D' = D ∧ L' = L ∧ G' = G) = false from by unfold Hd.fits opnHd at hfit; have h := of_decide_eq_false hfit; exact decide_eq_false (fun h' => h ⟨h'.1.symm, h'.2.1.symm, h'.2.2.symm⟩)] at he
    go_wp2_with fail
    go_ret
    exact ⟨rfl, HB15.out⟩
end Go.Proofs.YtgelingkifafeaaGreatDoor
