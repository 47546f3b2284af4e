import Derived.Test.YtgelingkifafeaaGreatDoorBu30
/- An archive is opened: the heads. -/
namespace Go.Proofs.YtgelingkifafeaaGreatDoor
open Go Go.RowKit Go.Proofs Lin
set_option maxRecDepth 100000
set_option linter.unusedVariables false

def opnHd (D L G : Nat) : Hd := ⟨0, D, L, G, 0, 0, 0⟩
/-- Do the params of a head fit? -/
def Hd.fits (h : Hd) (D L G : Nat) : Bool := decide (h.D = D ∧ h.L = L ∧ h.G = G)
/-- What an archive opens to, where no catalogue is to be read. -/
def opnTo (D L G : Nat) (h : Hd) (s : HdSt) : Option Nat × Hd × Arr :=
  if s.found then if s.latest.fits D L G then (none, s.latest, annTo true s.latest s.A (D + L + G)) else (some 1, h, s.A)
  else if s.fresh && decB D L G s.other then (none, opnHd D L G, annTo false (opnHd D L G) s.A (D + L + G)) else (some 3, h, s.A)
def errV : Option Nat → Value
  | none => .nilIface
  | some k => .iface 34 (I k)
def OpnIs (w : World) (ar cb kb : Nat) (l : ArrL) (A : Arr) (D L G : Nat) (cv : Value) (β : Nat → Nat) (ov lv bv : Value) (r : Option Nat × Hd × Arr) (e : Ending) (w' : World) : Prop :=
  e = .returned (errV r.1) ∧ ArcAt w' ar cb kb l r.2.2 D L G cv β r.2.1 ov lv bv ∧ Upd (fun b => l.own A.n b ∨ b = ar) w w'

theorem ArcAt.setHd {w w' : World} {ar cb kb : Nat} {l : ArrL} {A : Arr} {D L G : Nat} {cv : Value} {β : Nat → Nat} {h h' : Hd} {ov lv bv : Value} (H : ArcAt w ar cb kb l A D L G cv β h ov lv bv)
    (hu : Upd (· = ar) w w') (hk : KdKept w w') (hr : Row w' ar 0 13 (fun i => if 3 ≤ i ∧ i < 3 + 7 then hc h' (i - 3) else acell l.ab cb kb h ov lv bv i)) : ArcAt w' ar cb kb l A D L G cv β h' ov lv bv :=
  ⟨hr.congr fun i hi => by
      unfold acell
      by_cases h0 : i = 0
      · subst h0; rfl
      · by_cases h1 : i = 1
        · subst h1; rfl
        · by_cases h2 : i = 2
          · subst h2; rfl
          · by_cases h3 : i < 10
            · rw [if_pos ⟨by omega, by omega⟩, if_neg h0, if_neg h1, if_neg h2, if_pos h3]
            · rw [if_neg (by omega), if_neg h0, if_neg h1, if_neg h2, if_neg h3, if_neg h0, if_neg h1, if_neg h2, if_neg h3],
    hk _ _ H.kd, H.arr.kept hu (fun b hb _ e => H.notOwn (e ▸ hb)),
    H.cd.kinds hu (fun b hb t ht => by
      have e : t = 99 := by
        rcases Nat.decEq t 99 with hne | he
        · exact absurd rfl ((hb ▸ ht : Kd w ar t).ne H.kd hne)
        · exact he
      subst e; decide) (by have := H.right.d1; omega), H.right, H.n, H.wait⟩

set_option maxHeartbeats 400000 in
theorem neq_par (a b c x y z : Nat) (w : World) : (binOp .neq 23 (.agg #[I a, I b, I c]) (.agg #[I x, I y, I z])).run Tryz.prog w = .ok (.bool (!decide (a = x ∧ b = y ∧ c = z))) w := by
  by_cases e : a = x ∧ b = y ∧ c = z
  · obtain ⟨rfl, rfl, rfl⟩ := e; simp [go_sem]
  · have hd : decide (a = x ∧ b = y ∧ c = z) = false := decide_eq_false e
    rw [hd]
    simp [go_sem]
    intro e1 e2 e3
    exact e ⟨by omega, by omega, by omega⟩
theorem wpQuiet_neq_par {ops : Array Oper} {C : World → Prop} {Q : Act → Prop} {o : Oper} {rest : List Oper} {a : Act} (hw : Region.wanted o (yielded ops a.tmps) = true) (p q : Operand) (ho : o.op = .binOp .neq 23 p q 23)
    (x y z x' y' z' : Nat) (hp : a.eval p = .agg #[I x, I y, I z]) (hq : a.eval q = .agg #[I x', I y', I z']) (e : Bool) (he : (!decide (x = x' ∧ y = y' ∧ z = z')) = e) (hk : wpQuiet Tryz.prog ops C Q rest (a.put o.dst (.bool e))) : wpQuiet Tryz.prog ops C Q (o :: rest) a := by
  subst he
  refine wpQuiet_valG hw _ (fun w hw => ?_) hk
  have hm : Tryz.prog.eqGuardType Tryz.prog.depth 23 = false := by kernel_rfl
  have he := neq_par x y z x' y' z' w
  unfold execOp
  simp only [ho, hp, hq, Sem.run_bind, Sem.run_pure, run_eqGuard_agg w .neq 23 p q _ _ hm, Result.andThen_ok, he]

set_option maxHeartbeats 4000000 in
theorem opn_any (w : World) (ar cb kb : Nat) (l : ArrL) (A : Arr) (D L G : Nat) (cv : Value) (β : Nat → Nat) (h : Hd) (ov lv bv : Value) (H : ArcAt w ar cb kb l A D L G cv β h ov lv bv) (s : HdSt) (hs : s = hdTo A (D + L + G)) (hsz : s.found = true → s.latest.fits D L G = true → s.latest.size = 0) :
    Calls Tryz.prog 31 #[.pointer (some ⟨ar, 0, none⟩)] w (OpnIs w ar cb kb l A D L G cv β ov lv bv (opnTo D L G h s)) := by
  have HHd := Lib.hid (heads_any w ar cb kb l A D L G cv β h ov lv bv H)
  have HH := Lib.hid H
  have HN := Lib.hid H.n
  have HSz := Lib.hid hsz
  obtain ⟨n1, n2⟩ := hdTo_n A (D + L + G)
  rw [← hs] at n1 n2
  have HOk := Lib.hid (show s.latest.ok from by rw [hs]; exact hdTo_ok A _)
  have HS := Lib.hid hs
  have Hn1 := Lib.hid n1
  have hn0 : 0 < A.n := by rw [H.n]; have := H.right.d1; omega
  have Hn0 := Lib.hid hn0
  clear H hsz hs hn0
  go_enter Tryz.func31, Tryz.ntmps31
  go_upto_region 3 with (first | (go_at_call 47; refine HHd.out.mono ?_; rintro e w1 ⟨rfl, hA1, hu1⟩; rw [← HS.out] at hA1 ⊢) | (refine wpList_store_all (g := hc s.latest) rfl 95 (.tmp 3) (.tmp 14) rfl rfl rfl (Row.box w1 7 (hc hd0) 95) a95 (fun i hi => hc_one _ i hi) ?_; intro w2 hu2 hs2 hk2 hr2; simp only [Act.put]))
  have hb2 : Below w1.heap.size w1 w2 := Below.upd ((Below.refl _ w1).alloc (Nat.le_refl _) _) hu2 (fun _ h => h ▸ Nat.le_refl _) (by simp)
  have HK2 := Lib.hid ((HH.out.turned hu1 (fun b hb => .inr (.inl ⟨hb, Hn0.out⟩)) hA1 n1 n2).later hb2)
  have HU2 := Lib.hid ((hu1.mono (fun b _ hb => .inl (.inr (.inl ⟨hb, Hn0.out⟩)))).trans (Upd.of_below hb2) (fun _ h _ => h.elim) : Upd (fun b => l.own A.n b ∨ b = ar) w w2)
  have HR2 := Lib.hid hr2
  have HOk2 := HOk
  clear hb2 hu1 hA1 hu2 hs2 hk2 hr2 HHd n1 n2 HS
  have q1 : w2.cell? ⟨w1.heap.size, 1, none⟩ = some (I s.latest.D) := HR2.out.cell 1 (by omega)
  have q2 : w2.cell? ⟨w1.heap.size, 2, none⟩ = some (I s.latest.L) := HR2.out.cell 2 (by omega)
  have q3 : w2.cell? ⟨w1.heap.size, 3, none⟩ = some (I s.latest.G) := HR2.out.cell 3 (by omega)
  have c1 := HK2.out.c1
  have p0 := HK2.out.p0; have p1 := HK2.out.p1; have p2 := HK2.out.p2
  cases hf : s.found with
  | true =>
    refine wp_region_quiet_lit (by kernel_rfl) (by kernel_rfl) ?_
    repeat (go_big_quiet_step (fail))
    cases hfit : s.latest.fits D L G with
    | true =>
      have HO := Lib.hid (show opnTo D L G h s = (none, s.latest, annTo true s.latest s.A (D + L + G)) from by unfold opnTo; rw [if_pos hf, if_pos hfit])
      refine wpQuiet_neq_par rfl (.tmp 22) (.tmp 30) rfl _ _ _ _ _ _ rfl rfl false (by unfold Hd.fits at hfit; rw [hfit]; rfl) ?_
      simp only [Act.put, List.setIfInBounds_toArray, List.set_cons_succ, List.set_cons_zero]
      repeat (go_big_quiet_step (fail))
      refine wpQuiet_nil ?_
      clear q1 q2 q3 c1 p0 p1 p2
      rintro w3 ⟨nq, hw3⟩
      have hbn : Below w2.heap.size w2 w3 := by subst hw3; exact ⟨rfl, rfl, rfl, Nat.le_refl _, fun _ _ => rfl⟩
      have HK3 := Lib.hid (HK2.out.later hbn)
      have HU3 := Lib.hid (HU2.out.trans (Upd.of_below hbn) (fun _ h _ => h.elim) : Upd (fun b => l.own A.n b ∨ b = ar) w w3)
      have HR3 := Lib.hid (HR2.out.later hbn)
      clear hbn hw3 HK2 HU2 HR2
      go_upto_region 11 with (first | (refine wpList_load_rd rfl 95 (.tmp 3) rfl rfl HR3.out.rd Tryz.underlying95 rfl a95 ?_; simp only [Act.put, List.setIfInBounds_toArray, List.set_cons_succ, List.set_cons_zero]) | (refine wpList_store_in (k := 3) (n := 7) (N := 13) (g := hc s.latest) rfl 95 (.tmp 39) (.tmp 37) rfl rfl rfl HK3.out.top (by omega) a95 (fun i hi => hc_one _ i hi) ?_; intro w4 hu4 hs4 hk4 hr4; simp only [Act.put]))
      have HK4 := Lib.hid (HK3.out.setHd (h' := s.latest) hu4 hk4 hr4)
      have HU4 := Lib.hid (HU3.out.trans hu4 (fun _ h _ => .inr h) : Upd (fun b => l.own A.n b ∨ b = ar) w w4)
      clear hu4 hs4 hk4 hr4 HK3 HU3 HR3
      have z4 : w4.cell? ⟨ar, 7, none⟩ = some (.int .i64 0) := by
        have := HK4.out.hdRow.cell 4 (by omega)
        rw [show hc s.latest 4 = I (s.latest.size) from rfl, HSz.out hf hfit] at this
        exact this
      have HAn := Lib.hid (announce_any w4 ar cb kb l s.A D L G cv β (s.latest) ov lv bv true HK4.out HOk.out)
      go_wp2_with (go_at_call 48; refine HAn.out.mono ?_; rintro e w5 ⟨rfl, hA5, hu5⟩; have HK5 := Lib.hid (HK4.out.turned hu5 (fun _ h => h) hA5 (annTo_n _ _ _ _).1 (annTo_n _ _ _ _).2); have HU5 := Lib.hid (HU4.out.trans hu5 (fun _ h _ => .inl (by rwa [Hn1.out] at h)) : Upd (fun b => l.own A.n b ∨ b = ar) w w5); clear hA5 hu5)
      go_ret
      exact ⟨by rw [HO.out]; rfl, by rw [HO.out]; exact HK5.out, HU5.out⟩
    | false =>
      have HO := Lib.hid (show opnTo D L G h s = (some 1, h, s.A) from by unfold opnTo; rw [if_pos hf, if_neg (by rw [hfit]; decide)])
      refine wpQuiet_neq_par rfl (.tmp 22) (.tmp 30) rfl _ _ _ _ _ _ rfl rfl true (by unfold Hd.fits at hfit; rw [hfit]; rfl) ?_
      simp only [Act.put, List.setIfInBounds_toArray, List.set_cons_succ, List.set_cons_zero]
      repeat (go_big_quiet_step (fail))
      refine wpQuiet_nil ?_
      clear q1 q2 q3 c1 p0 p1 p2
      rintro w3 ⟨nq, hw3⟩
      have hbn : Below w2.heap.size w2 w3 := by subst hw3; exact ⟨rfl, rfl, rfl, Nat.le_refl _, fun _ _ => rfl⟩
      have HK3 := Lib.hid (HK2.out.later hbn)
      have HU3 := Lib.hid (HU2.out.trans (Upd.of_below hbn) (fun _ h _ => h.elim) : Upd (fun b => l.own A.n b ∨ b = ar) w w3)
      have HR3 := Lib.hid (HR2.out.later hbn)
      clear hbn hw3 HK2 HU2 HR2
      go_wp2_with fail
      go_ret
      exact ⟨by rw [HO.out]; rfl, by rw [HO.out]; exact HK3.out, HU3.out⟩
  | false =>
    refine wp_region_quiet_lit (by kernel_rfl) (by kernel_rfl) ?_
    repeat (go_big_quiet_step (fail))
    refine wpQuiet_nil ?_
    clear q1 q2 q3 c1 p0 p1 p2
    rintro w3 ⟨nq, hw3⟩
    have hbn : Below w2.heap.size w2 w3 := by subst hw3; exact ⟨rfl, rfl, rfl, Nat.le_refl _, fun _ _ => rfl⟩
    have HK3 := Lib.hid (HK2.out.later hbn)
    have HU3 := Lib.hid (HU2.out.trans (Upd.of_below hbn) (fun _ h _ => h.elim) : Upd (fun b => l.own A.n b ∨ b = ar) w w3)
    have HR3 := Lib.hid (HR2.out.later hbn)
    clear hbn hw3 HK2 HU2 HR2
    cases hfr : (s.fresh && decB D L G s.other) with
    | true =>
      have HO := Lib.hid (show opnTo D L G h s = (none, opnHd D L G, annTo false (opnHd D L G) s.A (D + L + G)) from by unfold opnTo; rw [if_neg (by rw [hf]; decide), if_pos hfr])
      have c1 := HK3.out.c1
      have p0 := HK3.out.p0; have p1 := HK3.out.p1; have p2 := HK3.out.p2
      have h7 := HK3.out.right.sum
      have HOkN := Lib.hid (show (opnHd D L G).ok from ⟨by show D < 256; omega, by show L < 256; omega, by show G < 256; omega, by show (0:Nat) < _; decide, by show (0:Nat) < _; decide, by show (0:Nat) < _; decide, by show (0:Nat) < _; decide⟩)
      go_upto_region 9 with (refine wpList_store_in (k := 3) (n := 7) (N := 13) (g := hc (opnHd D L G)) rfl 95 (.tmp 53) (.tmp 51) rfl rfl rfl HK3.out.top (by omega) a95 (fun i hi => hc_one _ i hi) ?_; intro w4 hu4 hs4 hk4 hr4; simp only [Act.put])
      clear c1 p0 p1 p2
      have HK4 := Lib.hid (HK3.out.setHd (h' := opnHd D L G) hu4 hk4 hr4)
      have HU4 := Lib.hid (HU3.out.trans hu4 (fun _ h _ => .inr h) : Upd (fun b => l.own A.n b ∨ b = ar) w w4)
      clear hu4 hs4 hk4 hr4 HK3 HU3 HR3
      have HAn := Lib.hid (announce_any w4 ar cb kb l s.A D L G cv β (opnHd D L G) ov lv bv false HK4.out HOkN.out)
      go_wp2_with (go_at_call 48; refine HAn.out.mono ?_; rintro e w5 ⟨rfl, hA5, hu5⟩; have HK5 := Lib.hid (HK4.out.turned hu5 (fun _ h => h) hA5 (annTo_n _ _ _ _).1 (annTo_n _ _ _ _).2); have HU5 := Lib.hid (HU4.out.trans hu5 (fun _ h _ => .inl (by rwa [Hn1.out] at h)) : Upd (fun b => l.own A.n b ∨ b = ar) w w5); clear hA5 hu5)
      go_ret
      exact ⟨by rw [HO.out]; rfl, by rw [HO.out]; exact HK5.out, HU5.out⟩
    | false =>
      have HO := Lib.hid (show opnTo D L G h s = (some 3, h, s.A) from by unfold opnTo; rw [if_neg (by rw [hf]; decide), if_neg (by rw [hfr]; decide)])
      go_wp2_with fail
      go_ret
      exact ⟨by rw [HO.out]; rfl, by rw [HO.out]; exact HK3.out, HU3.out⟩
end Go.Proofs.YtgelingkifafeaaGreatDoor
