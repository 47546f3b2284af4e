import Derived.Test.YtgelingkifafeaaGreatDoorBu35
import Derived.Test.YtgelingkifafeaaGreatDoorBu39
import Derived.Test.YtgelingkifafeaaGreatDoorBu20
import Derived.Test.YtgelingkifafeaaGreatDoorBu45
import Derived.Test.YtgelingkifafeaaGreatDoorBu49
/- The law Replaces. -/
namespace Go.Proofs.YtgelingkifafeaaGreatDoor
open Go Go.RowKit Go.Proofs Lin
set_option maxRecDepth 100000
set_option linter.unusedVariables false

/-- The law's world behind begin. -/
structure RSt (w V : World) (pb wb sb ar cb kb : Nat) (l : ArrL) (A : Arr) (D L G : Nat) (cv : Value) (β : Nat → Nat) : Prop where
  below : Below w.heap.size w V
  p : Rd V pb 0 3 (pcI D L G)
  wl : Row V wb 3 2 (fun i => if i = 0 then .pointer (some ⟨l.ab, 0, none⟩) else .pointer (some ⟨sb, 0, none⟩))
  row : Row V sb 0 1 (fun _ => .pointer (some ⟨ar, 0, none⟩))
  arc : ArcAt V ar cb kb l A D L G cv β (opnHd D L G) (.slice none 0 0) (.slice none 0 0) .nilIface
section
variable {w V V' : World} {pb wb sb ar cb kb : Nat} {l : ArrL} {A A' : Arr} {D L G : Nat} {cv : Value} {β : Nat → Nat}
theorem RSt.later (h : RSt w V pb wb sb ar cb kb l A D L G cv β) (hb : Below V.heap.size V V') : RSt w V' pb wb sb ar cb kb l A D L G cv β :=
  ⟨h.below.trans (hb.mono h.below.size), h.p.later hb, h.wl.later hb, h.row.later hb, h.arc.later hb⟩
theorem RSt.arrTo (h : RSt w V pb wb sb ar cb kb l A D L G cv β) (hu : Upd (l.own A.n) V V') (hA : ArcAt V' ar cb kb l A' D L G cv β (opnHd D L G) (.slice none 0 0) (.slice none 0 0) .nilIface) (ho : ∀ b, l.own A.n b → w.heap.size ≤ b ∧ b ≠ pb ∧ b ≠ wb ∧ b ≠ sb) : RSt w V' pb wb sb ar cb kb l A' D L G cv β :=
  ⟨Below.upd h.below hu (fun b hb => (ho b hb).1) h.below.size, h.p.upd hu (fun _ hb => (ho _ hb).2.1 rfl), h.wl.upd hu (fun _ hb => (ho _ hb).2.2.1 rfl), h.row.upd hu (fun _ hb => (ho _ hb).2.2.2 rfl), hA⟩
end

theorem shl16' (a : Nat) (ha : a < 16) : IntKind.u64.wrap ((2 : Int) ^ a) = ((2 ^ a : Nat) : Int) := by
  have hp : 2 ^ a < 2 ^ 16 := Nat.pow_lt_pow_right (by omega) ha
  have e0 : (2 : Int) ^ a = ((2 ^ a : Nat) : Int) := by simp
  rw [e0]; exact wraps_u64 _ (Int.natCast_nonneg _) (by omega)

/-- What begin leaves, for Replaces. -/
def BegR (D L G : Nat) (V0 : World) (l : ArrL) (sb : Nat) (V : World) : Prop :=
  ∃ A ar cb kb cv β, Row V sb 0 1 (fun _ => .pointer (some ⟨ar, 0, none⟩)) ∧ ArcAt V ar cb kb l A D L G cv β (opnHd D L G) (.slice none 0 0) (.slice none 0 0) .nilIface ∧ V0.heap.size ≤ ar ∧ V0.heap.size ≤ sb ∧ Sd A (D + L + G) (fun d => Frm.blk (cFrm (opnHd D L G) d)) ∧ ∀ b, l.own (D + L + G) b → b < V0.heap.size

theorem first_beg (w : World) (l : ArrL) (m D L G c : Nat) (H : ArrAt w l (arr0 (D + L + G) m)) (hR : Right D L G) (hc : c ≤ 64) (h8 : 8 ≤ m) :
    Calls Tryz.prog 6 #[.pointer (some ⟨l.ab, 0, none⟩), PV D L G, .agg #[I c]] w fun e w' => ∃ sb, e = .returned (.tuple #[.pointer (some ⟨sb, 0, none⟩), .nilIface]) ∧ Upd (l.own (D + L + G)) w w' ∧ BegR D L G w l sb w' := by
  obtain ⟨A, e, hS⟩ := opn_first hR (sd_arr0 (D + L + G) m (by omega))
  have hf : (hdTo (arr0 (D + L + G) m) (D + L + G)).found = true → (hdTo (arr0 (D + L + G) m) (D + L + G)).latest.fits D L G = true → (hdTo (arr0 (D + L + G) m) (D + L + G)).latest.size = 0 := by
    intro h1
    obtain ⟨A', e', _⟩ := hdTo_zero (sd_arr0 (D + L + G) m (by omega)) (D + L + G) (Nat.le_refl _)
    rw [e'] at h1; exact absurd h1 (by simp)
  refine (sOpen_any w l (arr0 (D + L + G) m) D L G c H (by show (-1 : Int) < 0; decide) hR hc rfl h8 hf).mono ?_
  rintro e2 w2 ⟨hu, h⟩
  rw [e] at h
  obtain ⟨sb, ar, cb, kb, cv, β, rfl, hr, hA, h1, h2⟩ := h
  exact ⟨sb, rfl, hu, A, ar, cb, kb, cv, β, hr, hA, h1, h2, hS, H.own_lt⟩

theorem opnHd_ok {D L G : Nat} (hR : Right D L G) : (opnHd D L G).ok := by
  have := hR.sum
  exact ⟨by show D < 256; omega, by show L < 256; omega, by show G < 256; omega, by show (0:Nat) < _; decide, by show (0:Nat) < _; decide, by show (0:Nat) < _; decide, by show (0:Nat) < _; decide⟩

theorem BegR.st {w V0 V V' : World} {D L G pb wb sb rb n : Nat} {c : Int} {l : ArrL} (h : BegR D L G V0 l sb V) (hV0 : wb < V0.heap.size) (hk : KdKept V V') (hu : Upd (· = wb) V V') (hkw : Kd V' wb 51) (hB : Below w.heap.size w V') (hp : Rd V' pb 0 3 (pcI D L G))
    (hw : Row V' wb 0 10 (wcell D L G (.pointer (some ⟨l.ab, 0, none⟩)) (.pointer (some ⟨sb, 0, none⟩)) (.pointer (some ⟨rb, 0, none⟩)) n (.slice none 0 0) (.slice none 0 0) c)) :
    ∃ A ar cb kb cv β, RSt w V' pb wb sb ar cb kb l A D L G cv β ∧ Sd A (D + L + G) (fun d => Frm.blk (cFrm (opnHd D L G) d)) ∧ ∀ b, l.own (D + L + G) b → b ≠ wb ∧ b ≠ sb := by
  obtain ⟨A, ar, cb, kb, cv, β, hr, hA, h1, h2, hS, hlt⟩ := h
  have hkd : ∀ b t, Kd V b t → b = wb → t = 51 := fun b t ht e => by
    rcases Nat.decEq t 51 with hne | he
    · exact absurd rfl ((e ▸ hk b t ht : Kd V' wb t).ne hkw hne)
    · exact he
  have hnw : ∀ b, l.own A.n b → b ≠ wb := fun b hb e => by
    subst e
    rcases hb with rfl | ⟨rfl, hn⟩ | ⟨d, hd, rfl | rfl⟩
    · exact absurd (hkd _ _ hA.arr.kab rfl) (by decide)
    · exact absurd (hkd _ _ (hA.arr.kdb hn) rfl) (by decide)
    · exact absurd (hkd _ _ (hA.arr.kbk d hd) rfl) (by decide)
    · exact absurd (hkd _ _ (hA.arr.kbd d hd) rfl) (by decide)
  refine ⟨A, ar, cb, kb, cv, β, ⟨hB, hp, (hw.sub (k := 3) (m := 2) (by omega)).congr fun i hi => by match i, hi with | 0, _ | 1, _ => rfl, hr.upd hu (fun _ => by omega), ?_⟩, hS, fun b hb => ⟨hnw b (by rwa [hA.n]), fun e => by have := hlt b hb; omega⟩⟩
  have h7 := hA.right.d1
  exact ⟨hA.top.upd hu (fun _ => by omega), hk _ _ hA.kd, hA.arr.kept hu (fun b hb _ e => hnw b hb e), hA.cd.kinds hu (fun b hb t ht => by have := hkd b t ht hb; subst this; decide) (by omega), hA.right, hA.n, hA.wait⟩

set_option maxHeartbeats 4000000 in
theorem replaces_walk (a b c d : Int) (w : World) (hg : Laid w) : Calls Tryz.prog 4 #[I a, I b, I c, I d] w (LawTrue w) := by
  have HG := Lib.hid hg
  have HFw := Lib.hid (few_any a b c w)
  clear hg
  go_enter Tryz.func4, Tryz.ntmps4
  go_upto_region 2 with (go_at_call 12; refine HFw.out.mono ?_; rintro e w1 ⟨⟨D, L, G, rfl, hR, hD6, hL3, hG3⟩, hb1⟩)
  have HR := Lib.hid hR
  have HP2 := Lib.hid (pcI_new w1 D L G 23)
  have HB2 := Lib.hid (hb1.trans (((Below.refl _ w1).alloc (Nat.le_refl _) (.cells #[I D, I L, I G] 23)).mono hb1.size))
  have hz1 := hb1.size
  have hz2 : (w1.alloc (.cells #[I D, I L, I G] 23)).heap.size = w1.heap.size + 1 := World.size_alloc ..
  clear hb1 hR
  generalize w1.alloc (.cells #[.int .i64 D, .int .i64 L, .int .i64 G] 23) = w2 at *
  obtain ⟨pb, hpb⟩ : ∃ pb, pb = w1.heap.size := ⟨_, rfl⟩
  rw [← hpb] at HP2 ⊢
  have c0 : w2.cell? ⟨pb, 0, none⟩ = some (I D) := HP2.out 0 (by omega)
  have c1 : w2.cell? ⟨pb, 1, none⟩ = some (I L) := HP2.out 1 (by omega)
  have c2 : w2.cell? ⟨pb, 2, none⟩ = some (I G) := HP2.out 2 (by omega)
  have hpw : w.heap.size ≤ pb ∧ pb < w2.heap.size := by omega
  clear hpb hz1 hz2
  have HBg := Lib.hid (begin_any w2 D L G 20 0 HR.out (by omega) (BegR D L G) (fun V l cc hcc hA _ => first_beg V l 20 D L G cc hA HR.out hcc (by omega)))
  go_upto_region 3 with (go_at_call 13; refine HBg.out.mono ?_; rintro e w3 ⟨l, wb, sb, rb, cc, V0, V, rfl, hcc, hV0, hrb, hBR, hkv, huv, hb3, hwr, hkw, hrr, hkr, hwb, hrb2, hol⟩)
  obtain ⟨A, ar, cb, kb, cv, β, hS3, hSd, hnb⟩ := hBR.st (w := w) hV0 hkv huv hkw (HB2.out.trans (hb3.mono HB2.out.size)) (HP2.out.later hb3) hwr
  have HNb := Lib.hid hnb
  have hAn : A.n = D + L + G := hSd.n
  have HOw := Lib.hid (show ∀ b, l.own A.n b → w.heap.size ≤ b ∧ b ≠ pb ∧ b ≠ wb ∧ b ≠ sb from fun b hb => by
    rw [hAn] at hb
    have := hol b hb
    exact ⟨by omega, by omega, (hnb b hb).1, (hnb b hb).2⟩)
  have HSt := Lib.hid hS3
  have HSd := Lib.hid hSd
  have HGE := Lib.hid (show ¬ l.own A.n 0 from fun h => by have := (HOw.out _ h).1; have := HG.out.lt; omega)
  have HL3 := Lib.hid (HG.out.later hS3.below)
  have HAn := Lib.hid hAn
  clear hS3 hSd hnb hol hrb2 hwb hkr hrr hkw hwr hb3 huv hkv hBR hrb hV0 hcc c0 c1 c2 HP2 HB2 HBg HFw hAn
  have x4 : w3.cell? ⟨wb, 4, none⟩ = some (.pointer (some ⟨sb, 0, none⟩)) := HSt.out.wl.cell 1 (by omega)
  have HRp := Lib.hid (sRep0_any w3 sb ar cb kb l A D L G cv β (opnHd D L G) HSt.out.arc (HSt.out.row.cell 0 (by omega)) (opnHd_ok HR.out) HL3.out HGE.out d)
  obtain ⟨r, hr⟩ : ∃ r, r = repI A (opnHd D L G) (D + L + G) d := ⟨_, rfl⟩
  rw [← hr] at HRp
  have HRe := Lib.hid hr
  clear hr
  go_upto_region 6 with (go_at_call 14; refine HRp.out.mono ?_; rintro e w4 ⟨rfl, hA4, hu4⟩)
  have HSt4 := Lib.hid (HSt.out.arrTo hu4 hA4 HOw.out)
  have HL4 := Lib.hid (HG.out.later HSt4.out.below)
  clear hA4 hu4 x4 HRp
  go_upto_region 7 with (go_at_call 7; refine (tell_errV r.1 w4 HL4.out).mono ?_; rintro e w5 ⟨rfl, hb5⟩)
  have HSt5 := Lib.hid (HSt4.out.later hb5)
  have HL5 := Lib.hid (HG.out.later HSt5.out.below)
  clear hb5 HSt4 HL4
  have c0 : w5.cell? ⟨pb, 0, none⟩ = some (I D) := HSt5.out.p 0 (by omega)
  have c1 : w5.cell? ⟨pb, 1, none⟩ = some (I L) := HSt5.out.p 1 (by omega)
  have c2 : w5.cell? ⟨pb, 2, none⟩ = some (I G) := HSt5.out.p 2 (by omega)
  have h7 := HR.out.sum
  obtain ⟨N, hN⟩ : ∃ N, N = D + L + G := ⟨_, rfl⟩
  have HSh := Lib.hid (fun V => show Calls Tryz.prog 15 #[PV D L G] V fun e w' => e = .returned (I (N : Int)) ∧ Below V.heap.size V w' from by
    have := shards_any D L G (by omega) V; rwa [show (D : Int) + L + G = (N : Int) by omega] at this)
  rw [← hN] at h7 HRe HSd HAn
  have HNe := Lib.hid hN
  clear hN HSt
  by_cases h0 : d < 0
  · have e1 : r.1 = some 11 := by rw [HRe.out]; unfold repI; rw [if_pos h0]
    have b0 : decide (d < 0) = true := decide_eq_true h0
    rw [e1]
    simp only [errV, Option.getD_some]
    go_wp2_with fail
    go_ret
    exact ⟨rfl, HSt5.out.below⟩
  obtain ⟨d, rfl⟩ := Int.eq_ofNat_of_zero_le (Int.not_lt.1 h0)
  have b0 : decide ((d : Int) < 0) = false := decide_eq_false h0
  have e0 : r = repTo A (opnHd D L G) N d := by rw [HRe.out]; unfold repI; rw [if_neg h0]; rfl
  by_cases h1 : N ≤ d
  · have e1 : r.1 = some 11 := by rw [e0]; unfold repTo; rw [if_pos h1]
    have b1 : decide (N ≤ d) = true := decide_eq_true h1
    rw [e1]
    clear e0 e1 h0
    simp only [errV, Option.getD_some]
    go_wp2_with (go_at_call 15; refine (HSh.out _).mono ?_; rintro e w6 ⟨rfl, hb6⟩; have HB6 := Lib.hid (HSt5.out.later hb6).below; clear hb6)
    go_ret
    exact ⟨rfl, HB6.out⟩
  have hw1 : (A.wr d 0 (Frm.blk (cFrm (opnHd D L G) d))).1 = none := by unfold Arr.wr; rw [HSd.out.err (by omega)]
  have e2 : r.1 = none := by rw [e0]; unfold repTo; rw [if_neg h1, hw1]; rfl
  have en : r.2.n = N ∧ r.2.wait < 0 ∧ 0 < r.2.m := by
    have hn := repI_n A (opnHd D L G) N (d : Int)
    rw [← HRe.out] at hn
    have h1 := HSd.out.wait; have h2 := HSd.out.m
    exact ⟨by rw [hn.1, HAn.out], by rw [hn.2.2.1]; exact h1, by rw [hn.2.1]; exact h2⟩
  have b1 : decide (N ≤ d) = false := decide_eq_false h1
  rw [e2]
  have HEn := Lib.hid en
  clear e0 e2 h0 hw1 en
  simp only [errV, Option.getD_none]
  go_upto_region 9 with (go_at_call 15; refine (HSh.out _).mono ?_; rintro e w6 ⟨rfl, hb6⟩)
  have HSt6 := Lib.hid (HSt5.out.later hb6)
  have HL6 := Lib.hid (HG.out.later HSt6.out.below)
  clear hb6 HSt5 HL5 c0 c1 c2
  obtain ⟨ι1, hι1, wA, hwA, HWA⟩ := later_worlds w6
  have HBA := Lib.hid hwA
  have y0 : ∀ n, (wA n).cell? ⟨pb, 0, none⟩ = some (I D) := fun n => (HSt6.out.later (hwA n)).p 0 (by omega)
  have y1 : ∀ n, (wA n).cell? ⟨pb, 1, none⟩ = some (I L) := fun n => (HSt6.out.later (hwA n)).p 1 (by omega)
  have y2 : ∀ n, (wA n).cell? ⟨pb, 2, none⟩ = some (I G) := fun n => (HSt6.out.later (hwA n)).p 2 (by omega)
  have HNx := Lib.hid (fun n V (hb : Below (wA n).heap.size (wA n) V) => HWA.out V ((hwA n).trans (hb.mono (hwA n).size)))
  have hd16 : d < 16 := by omega
  have HDc := Lib.hid (fun V => refDec_ok D L G (2 ^ d) HR.out (Nat.lt_of_lt_of_le (Nat.pow_lt_pow_right (by omega) hd16) (by decide)) V)
  generalize decB D L G (2 ^ d) = can at *
  have HShl := Lib.hid (shl16' d hd16)
  clear hwA hd16
  refine wp_region_I (fun _ V => ∃ n, V = wA n) mixed0 (by kernel_rfl) (HWA.out _ (below_drew' w6)) ?_
  refine wpI_reads (C := fun V => ∃ n, V = wA n) 1 (by decide) rfl (fun L V h => h) (fun j _ _ L V h => h) ?_
  simp only [List.drop_zero, List.take_succ_cons, List.take_zero]
  repeat (go_big_quiet_step (fail))
  refine wpQuiet_nil ?_
  simp only [Nat.zero_add]
  refine wpI_eff rfl rfl (PV D L G) ?_ ?_
  · intro L' V hL _ hS
    obtain ⟨n, rfl⟩ := hS
    go_wp2_with fail
    refine (theirs_any D L G _).mono ?_
    rintro e w7 ⟨rfl, hb⟩
    go_wp2_with fail
    exact ⟨rfl, HNx.out n _ hb⟩
  simp only [Act.put, List.setIfInBounds_toArray, List.set_cons_succ, List.set_cons_zero]
  refine wpI_reads (C := fun V => ∃ n, V = wA n) 2 (by decide) rfl (fun L V h => h) (fun j _ _ L V h => h) ?_
  simp only [List.drop_succ_cons, List.drop_zero, List.take_succ_cons, List.take_zero]
  repeat (go_big_quiet_step (fail))
  refine wpQuiet_nil ?_
  rw [HShl.out]
  refine wpI_eff rfl rfl (.bool can) ?_ ?_
  · intro L' V hL _ hS
    obtain ⟨n, rfl⟩ := hS
    go_wp2_with fail
    refine (HDc.out _).mono ?_
    rintro e w7 ⟨rfl, hb⟩
    go_wp2_with fail
    exact ⟨rfl, HNx.out n _ hb⟩
  simp only [Act.put, List.setIfInBounds_toArray, List.set_cons_succ, List.set_cons_zero]
  refine wpI_reads (C := fun V => ∃ n, V = wA n) 1 (by decide) rfl (fun L V h => h) (fun j _ _ L V h => h) ?_
  simp only [List.drop_succ_cons, List.drop_zero, List.take_succ_cons, List.take_zero]
  repeat (go_big_quiet_step (fail))
  refine wpQuiet_nil ?_
  refine wpI_end (by decide) ?_
  intro L' w7 _ hS
  have HB67 : Hid (Below w6.heap.size w6 w7) := by obtain ⟨n, rfl⟩ := hS; exact Lib.hid (HBA.out n)
  have HSt7 := Lib.hid (HSt6.out.later HB67.out)
  have HL7 := Lib.hid (HG.out.later HSt7.out.below)
  clear hS HBA y0 y1 y2 HNx HWA HB67 HSt6 HL6 HDc
  cases can with
  | false =>
    go_wp2_with fail
    go_ret
    exact ⟨rfl, HSt7.out.below⟩
  | true =>
    have x3 : w7.cell? ⟨wb, 3, none⟩ = some (.pointer (some ⟨l.ab, 0, none⟩)) := HSt7.out.wl.cell 0 (by omega)
    have HLs := Lib.hid (lose_any w7 l r.2 d HSt7.out.arc.arr (by have := HEn.out.1; omega))
    go_upto_region 13 with (go_at_call 17; refine HLs.out.mono ?_; rintro e w8 ⟨rfl, hA8, hu8⟩)
    have hn8 : (r.2.lose d).n = r.2.n := rfl
    have HSt8 := Lib.hid (HSt7.out.arrTo (hu8.mono fun b _ e => (.inr (.inl ⟨e, by have := HEn.out.1; have := HR.out.d1; omega⟩) : l.own r.2.n b)) (HSt7.out.arc.turned hu8 (fun b e => .inr (.inl ⟨e, by have := HEn.out.1; omega⟩)) hA8 rfl rfl) (fun b hb => HOw.out b (by rw [HAn.out]; rwa [HEn.out.1] at hb)))
    have HL8 := Lib.hid (HG.out.later HSt8.out.below)
    clear hA8 hu8 x3 HLs
    have x4 : w8.cell? ⟨wb, 4, none⟩ = some (.pointer (some ⟨sb, 0, none⟩)) := HSt8.out.wl.cell 1 (by omega)
    have hlst : ((r.2.lose d).wr d 0 (Frm.blk (cFrm (opnHd D L G) d))).1 = some 11 := by
      have h1 := HEn.out.2.1
      unfold Arr.wr Arr.err
      rw [if_neg (by show ¬ r.2.wait = 0; omega), if_pos (.inr (.inr (by show (if (d : Int).toNat = d then _ else r.2.drv _).lost = true; rw [if_pos (by omega)])))]
    have hr2 : (repI (r.2.lose d) (opnHd D L G) (D + L + G) (d : Int)).1 = some 11 := by
      unfold repI repTo
      rw [if_neg (by omega), if_neg (by rw [← HNe.out]; show ¬ N ≤ (d : Int).toNat; omega)]
      show (if ((r.2.lose d).wr (d : Int).toNat 0 _).1.isSome = true then some 11 else none) = some 11
      rw [show (d : Int).toNat = d by omega, hlst]; rfl
    have HRp2 := Lib.hid (sRep0_any w8 sb ar cb kb l (r.2.lose d) D L G cv β (opnHd D L G) HSt8.out.arc (HSt8.out.row.cell 0 (by omega)) (opnHd_ok HR.out) HL8.out (fun h => HGE.out (by rw [HAn.out]; rwa [hn8, HEn.out.1] at h)) d)
    unfold RepIs at HRp2
    rw [hr2] at HRp2
    clear hr2 hlst
    generalize (repI (r.2.lose d) (opnHd D L G) (D + L + G) (d : Int)).2 = A9 at *
    simp only [errV] at HRp2
    go_upto_region 14 with (go_at_call 14; refine HRp2.out.mono ?_; rintro e w9 ⟨rfl, hA9, hu9⟩)
    have HSt9 := Lib.hid (HSt8.out.arrTo hu9 hA9 (fun b hb => HOw.out b (by rw [HAn.out]; rwa [hn8, HEn.out.1] at hb)))
    have HL9 := Lib.hid (HG.out.later HSt9.out.below)
    clear hA9 hu9 x4 HRp2
    go_wp2_with (go_at_call 7; refine (tell_errno 11 w9 HL9.out).mono ?_; rintro e w10 ⟨rfl, hb10⟩; have HB10 := Lib.hid (HSt9.out.later hb10).below; clear hb10)
    go_ret
    exact ⟨rfl, HB10.out⟩
end Go.Proofs.YtgelingkifafeaaGreatDoor
