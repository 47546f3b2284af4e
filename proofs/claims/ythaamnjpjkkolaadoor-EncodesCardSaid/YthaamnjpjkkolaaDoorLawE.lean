import Derived.Test.YthaamnjpjkkolaaDoorRefEnc
import Derived.Test.YthaamnjpjkkolaaDoorSameAll
import Derived.Test.YthaamnjpjkkolaaDoorTell
import Derived.Test.YthaamnjpjkkolaaDoorNum
import Derived.WalkSpells
/- The law Encodes: its walk. -/
namespace Go.Proofs.YthaamnjpjkkolaaDoor
open Go.RowKit Go.Proofs Lin
set_option maxRecDepth 100000
set_option linter.unusedVariables false

/-- A matrix that was made, behind a call that turned elder blocks alone. -/
theorem Mr.parts {w wr w1 : World} {v : Value} {k W : Nat} {M : Mat} {β : Nat → Nat} {G : Nat → Prop} (h : Mr w wr v k W M β) (hu : Upd G wr w1) (hG : ∀ b, G b → b < w.heap.size) :
    ∃ a b c, v = .slice a k c ∧ (0 < k → a = some ⟨b, 0, none⟩) ∧ Rd w1 b 0 k (fun j => .slice (some ⟨β j, 0, none⟩) W W) ∧ (0 < k → Kd w1 b 37) ∧ (∀ j, j < k → Row w1 (β j) 0 W (bs (M j))) ∧ (∀ j, j < k → Kd w1 (β j) 5) := by
  obtain ⟨a, b, c, hv, ha, hr, hk, _⟩ := h.sh
  have hb : 0 < k → ¬ G b := fun h0 e => by have := hG b e; have := (hk h0).1; omega
  have hr' : ∀ j, j < k → ¬ G (β j) := fun j hj e => by have := hG _ e; have := h.own j hj; omega
  exact ⟨a, b, c, hv, ha, hr.upd hu hb, fun h0 => (hk h0).2.upd hu (hb h0), fun j hj => (h.row j hj).upd hu fun _ => hr' j hj, fun j hj => (h.kd j hj).upd hu (hr' j hj)⟩

theorem mr_twin {w w1 w2 w3 w4 : World} {v v' : Value} {k W : Nat} {M : Mat} {β γ : Nat → Nat} {G : Nat → Prop} (h : Mr w w1 v k W M β) (hu : Upd G w1 w2) (hG : ∀ b, G b → b < w.heap.size) (h23 : Below w2.heap.size w2 w3) (h' : Mr w3 w4 v' k W M γ) :
    ∃ a a' b b' c c', v = .slice a k c ∧ v' = .slice a' k c' ∧ Twin w4 a a' b b' k W β γ M := by
  have hu4 : Upd G w1 w4 := (hu.trans (Upd.of_below (h23.trans (h'.below.mono h23.size))) fun _ h _ => h.elim)
  obtain ⟨a, b, c, hv, ha, hr, hk, hrow, hkd⟩ := h.parts hu4 hG
  obtain ⟨a', b', c', hv', ha', hr', hk', _⟩ := h'.sh
  refine ⟨a, a', b, b', c, c', hv, hv', ha, ha', hr, hr', hrow, fun i hi => (h'.row i hi).rd, hkd, hk, fun h0 => (hk' h0).2, h.up, fun i hi j hj e => ?_⟩
  have h1 := h'.own i hi
  have h2 := (h.kd j hj).lt
  have := hu.size
  have := h23.size
  omega

theorem Mr.congr {w wr : World} {v : Value} {k W : Nat} {M N : Mat} {β : Nat → Nat} (h : Mr w wr v k W M β) (e : ∀ i, i < k → ∀ t, t < W → M i t = N i t) : Mr w wr v k W N β :=
  ⟨h.below, h.sh, fun j hj => (h.row j hj).congr fun x hx => by simp [bs, e j hj x hx], h.kd, h.own, h.up⟩

theorem encP_room {D n : Nat} {S : Nat → Sl} {β : Nat → Nat} : EncP D n (roomS S β) ↔ EncP D n S := Iff.rfl

theorem encM_room {D L : Nat} {S : Nat → Sl} {β : Nat → Nat} (h : EncTo D S) (i : Nat) {t : Nat} (ht : t < (S 0).n) : encM D L (fun q => (roomS S β q).x) i t = encM D L (fun q => (S q).x) i t := by
  unfold encM
  refine dot_congr (fun _ _ => rfl) fun q hq => ?_
  show roomX (S q).n (S q).x t = _
  unfold roomX
  rw [if_pos (by rw [(h q hq).1]; exact ht)]

def RefEncBad (w : World) (n : Int) (e : Ending) (w' : World) : Prop := e = .returned (.tuple #[.slice none 0 0, I n]) ∧ Below w.heap.size w w'

set_option maxHeartbeats 400000 in
theorem refEncode_bad (D L G : Int) (hR : ¬ RightI D L G) (v : Value) (w : World) : Calls Tryd.prog 24 #[PV D L G, v] w (RefEncBad w 1) := by
  have HN := Lib.hid (refMatrix_bad D L G hR)
  clear hR
  have HB := Lib.hid ((Below.refl w.heap.size w).alloc (Nat.le_refl _) (.cells #[I D, I L, I G] 50))
  go_enter Tryd.func24, Tryd.ntmps24
  go_wp2_with (go_at_call 18; refine (HN.out _).mono ?_; rintro e w1 ⟨rfl, hb⟩; have HB1 := Lib.hid (HB.out.trans (hb.mono HB.out.size)); clear hb)
  go_ret2
  exact ⟨rfl, HB1.out⟩

set_option maxHeartbeats 2000000 in
theorem encodes_no (D L G : Int) (x : Int) (a : Option Addr) (b o n c : Nat) (S : Nat → Sl) (w : World) (h : Rws w a b o n c S) (hl : Laid w) (hx : x ≠ 0)
    (hE : ∀ (a' : Option Addr) (b' c' : Nat) (β : Nat → Nat) (w' : World), (0 < n → a' = some ⟨b', 0, none⟩) → Rd w' b' 0 n (fun i => (roomS S β i).v) → (∀ i, i < n → (roomS S β i).ok w') → n ≤ c' → n ≤ 100000 → Calls Tryd.prog 22 #[PV D L G, .slice a' n c'] w' (EncBad w' x))
    (hF : ∀ w', Rws w' a b o n c S → n ≤ 100000 → Calls Tryd.prog 24 #[PV D L G, .slice a n c] w' (RefEncBad w' x)) :
    Calls Tryd.prog 6 #[PV D L G, .slice a n c] w (LawTrue w) := by
  have HE := Lib.hid hE
  have HF := Lib.hid hF
  clear hE hF
  have hnn := fun w => Lib.run_eql_slice_nil (P := Tryd.prog) w 47 37 none 0 0 0 0 Tryd.underlying47
  simp only [Option.isNone_none] at hnn
  have hx0 : (x == 0) = false := by simpa using hx
  have HS := Lib.hid h
  have HL := Lib.hid hl
  have hmax := h.max
  have hcap := h.cap
  have hwt := Lib.hid (fun w' (hb : Below w.heap.size w w') => weight_any a b o n c S w' (h.later hb).addr (h.later hb).out (fun i hi => Nat.le_trans (h.ok i hi).cap (h.ok i hi).max) (by unfold maxLen; omega))
  clear h hl
  have HB0 := Lib.hid ((Below.refl w.heap.size w).alloc (Nat.le_refl _) (.cells #[I D, I L, I G] 46))
  have HP0 := Lib.hid (pcI_new w D L G 46)
  go_enter Tryd.func6, Tryd.ntmps6
  go_wp2_with fail
  refine (hwt.out _ HB0.out).mono ?_
  rintro e w1 ⟨r, rfl, rfl, hr0, hr⟩
  by_cases hbig : 100000 < r
  · clear hr
    go_wp2_with fail
    go_ret
    exact ⟨rfl, HB0.out⟩
  have hsum : n + wt S n ≤ 100000 := hr (by omega)
  have hs := Lib.hid (fun i (hi : i < n) => (show (S i).n ≤ 100000 by have := wt_le S hi; omega))
  clear hr hwt
  go_wp2_with fail
  have HSa := Lib.hid (HS.out.later HB0.out)
  refine (roomies_any a b o n c S _ HSa.out.addr HSa.out.out HSa.out.ok hs.out (by omega)).mono ?_
  rintro e w1 ⟨v, β, rfl, hb1, hv1, hr1⟩
  have HB1 := Lib.hid (HB0.out.trans (hb1.mono HB0.out.size))
  have HP1 := Lib.hid (HP0.out.later hb1)
  have HV1 := Lib.hid hv1
  have HR1 := Lib.hid hr1
  have hsz0 : w.heap.size < (w.alloc (.cells #[I D, I L, I G] 46)).heap.size := by rw [Deep.nblk_alloc]; omega
  have HBX := Lib.hid (show ∀ j, j < n → (w.alloc (.cells #[I D, I L, I G] 46)).heap.size ≤ β j ∧ β j < w1.heap.size from fun j hj => ⟨hr1.own j hj, (hr1.kd j hj).lt⟩)
  clear hb1 hv1 hr1
  obtain ⟨va, vb, vc, rfl, hva, hvr, hvc, _, _⟩ := HV1.out.shape
  have a0 : w1.cell? ⟨w.heap.size, 0, none⟩ = some (I D) := HP1.out 0 (by omega)
  have a1 : w1.cell? ⟨w.heap.size, 1, none⟩ = some (I L) := HP1.out 1 (by omega)
  have a2 : w1.cell? ⟨w.heap.size, 2, none⟩ = some (I G) := HP1.out 2 (by omega)
  have HRk := Lib.hid (roomS_ok HR1.out hs.out)
  have HVR := Lib.hid hvr.rd
  have HVA := Lib.hid hva
  clear hva hvr
  go_wp2_with fail
  refine (HE.out va vb vc β w1 HVA.out HVR.out HRk.out hvc (by omega)).mono ?_
  rintro e w2 ⟨rfl, hb⟩
  have HB2 := Lib.hid (HB1.out.trans (hb.mono HB1.out.size))
  have H12 := Lib.hid hb
  have HL2 := Lib.hid (HL.out.later HB2.out)
  clear hb
  go_wp2_with (go_at_call 8; refine (tell_errno x _ HL2.out).mono ?_; rintro e w3 ⟨rfl, hb⟩; have HB3 := Lib.hid (HB2.out.trans (hb.mono HB2.out.size)); have H13 := Lib.hid (H12.out.trans (hb.mono H12.out.size)); clear hb)
  have HP3 := Lib.hid (HP1.out.later H13.out)
  have HS3 := Lib.hid (HS.out.later HB3.out)
  refine (allStill_fine (.slice va n vc) a b o n c (w.alloc (.cells #[I D, I L, I G] 46)).heap.size S β w3 HS3.out.addr HS3.out.out HS3.out.ok hs.out (by omega) (fun h0 => by have := HS.out.out.lt h0; omega) (fun i hi h0 => by have := (HS.out.ok i hi).rd.lt h0; omega) ((HV1.out.later H13.out)) (HR1.out.later H13.out)).mono ?_
  rintro e w4 ⟨rfl, hu4⟩
  have HB4 := Lib.hid (Below.upd HB3.out hu4 (fun t ⟨j, hj, e⟩ => by have := (HBX.out j hj).1; omega) HB3.out.size)
  have hp := HP3.out.upd hu4 (fun _ ⟨j, hj, e⟩ => by have := (HBX.out j hj).1; omega)
  have b0 : w4.cell? ⟨w.heap.size, 0, none⟩ = some (I D) := hp 0 (by omega)
  have b1 : w4.cell? ⟨w.heap.size, 1, none⟩ = some (I L) := hp 1 (by omega)
  have b2 : w4.cell? ⟨w.heap.size, 2, none⟩ = some (I G) := hp 2 (by omega)
  clear hp
  have HU4 := Lib.hid hu4
  clear hu4
  go_wp2_with (go_at_call 17; refine (theirs_any D L G _).mono ?_; rintro e w5 ⟨rfl, hb⟩; have H45 := Lib.hid (hb.alloc hb.size (.cells #[I D, I L, I G] 50)); clear hb)
  have HB5 := Lib.hid (HB4.out.trans (H45.out.mono HB4.out.size))
  have HS5 := Lib.hid (HS.out.later HB5.out)
  refine (HF.out _ HS5.out (by omega)).mono ?_
  rintro e w6 ⟨rfl, hb⟩
  have HB6 := Lib.hid (HB5.out.trans (hb.mono HB5.out.size))
  have HSA := Lib.hid (sameAll_yes none none 0 0 0 0 0 0 _ _ _ w6 (twin_nil w6) (by omega) (by omega))
  clear hb
  go_wp2_with (first | (go_at_call 19; refine HSA.out.mono ?_; rintro e w7 ⟨rfl, hu⟩; have HB7 := Lib.hid (Below.upd HB6.out hu (fun t ⟨j, hj, e⟩ => absurd hj (by omega)) HB6.out.size); clear hu) | (go_at_call 11; refine (num_any _ _).mono ?_; rintro e w8 ⟨rfl, rfl⟩))
  go_ret
  exact ⟨by simp, HB7.out⟩

set_option maxHeartbeats 2000000 in
theorem encodes_yes (D L G : Nat) (hR : Right D L G) (a : Option Addr) (b o n c : Nat) (S : Nat → Sl) (w : World) (h : Rws w a b o n c S) (hP : EncP D n S) :
    Calls Tryd.prog 6 #[PV D L G, .slice a n c] w (LawTrue w) := by
  have hl : True := trivial
  have h7 := hR.sum
  have h1 := hR.d1
  have hW0 : (S 0).n ≤ 4096 := (hP.2 0 (by have := hP.1; omega)).2
  have HP := Lib.hid hP
  have HE := Lib.hid (fun β a b c w h1 h2 h3 h4 h5 => sEncode_ok D L G hR a b 0 n c (roomS S β) w h1 h2 h3 h4 h5)
  have HF := Lib.hid (fun w h1 h2 h3 h4 h5 => refEncode_ok D L G hR a b o n c S w h1 h2 h3 h4 h5)
  clear hP hR
  have HS := Lib.hid h
  have HL := Lib.hid hl
  have hmax := h.max
  have hcap := h.cap
  have hwt := Lib.hid (fun w' (hb : Below w.heap.size w w') => weight_any a b o n c S w' (h.later hb).addr (h.later hb).out (fun i hi => Nat.le_trans (h.ok i hi).cap (h.ok i hi).max) (by unfold maxLen; omega))
  clear h hl
  have HB0 := Lib.hid ((Below.refl w.heap.size w).alloc (Nat.le_refl _) (.cells #[I D, I L, I G] 46))
  have HP0 := Lib.hid (pcI_new w D L G 46)
  go_enter Tryd.func6, Tryd.ntmps6
  go_wp2_with fail
  refine (hwt.out _ HB0.out).mono ?_
  rintro e w1 ⟨r, rfl, rfl, hr0, hr⟩
  by_cases hbig : 100000 < r
  · clear hr
    go_wp2_with fail
    go_ret
    exact ⟨rfl, HB0.out⟩
  have hsum : n + wt S n ≤ 100000 := hr (by omega)
  have hs := Lib.hid (fun i (hi : i < n) => (show (S i).n ≤ 100000 by have := wt_le S hi; omega))
  clear hr hwt
  go_wp2_with fail
  have HSa := Lib.hid (HS.out.later HB0.out)
  refine (roomies_any a b o n c S _ HSa.out.addr HSa.out.out HSa.out.ok hs.out (by omega)).mono ?_
  rintro e w1 ⟨v, β, rfl, hb1, hv1, hr1⟩
  have HB1 := Lib.hid (HB0.out.trans (hb1.mono HB0.out.size))
  have HP1 := Lib.hid (HP0.out.later hb1)
  have HV1 := Lib.hid hv1
  have HR1 := Lib.hid hr1
  have hsz0 : w.heap.size < (w.alloc (.cells #[I D, I L, I G] 46)).heap.size := by rw [Deep.nblk_alloc]; omega
  have HBX := Lib.hid (show ∀ j, j < n → (w.alloc (.cells #[I D, I L, I G] 46)).heap.size ≤ β j ∧ β j < w1.heap.size from fun j hj => ⟨hr1.own j hj, (hr1.kd j hj).lt⟩)
  clear hb1 hv1 hr1
  obtain ⟨va, vb, vc, rfl, hva, hvr, hvc, _, _⟩ := HV1.out.shape
  have a0 : w1.cell? ⟨w.heap.size, 0, none⟩ = some (I D) := HP1.out 0 (by omega)
  have a1 : w1.cell? ⟨w.heap.size, 1, none⟩ = some (I L) := HP1.out 1 (by omega)
  have a2 : w1.cell? ⟨w.heap.size, 2, none⟩ = some (I G) := HP1.out 2 (by omega)
  have HRk := Lib.hid (roomS_ok HR1.out hs.out)
  have HVR := Lib.hid hvr.rd
  have HVA := Lib.hid hva
  clear hva hvr
  go_wp2_with fail
  refine (HE.out β va vb vc w1 HVA.out HVR.out HRk.out hvc (by omega)).mono ?_
  rintro e w2 (⟨_, v2, γ, rfl, hm⟩ | ⟨hno, _, _⟩)
  case inr => exact absurd HP.out hno
  have HM := Lib.hid (hm.congr (N := encM D L (fun q => (S q).x)) fun i hi t ht => encM_room (HP.out.1 ▸ HP.out.2) i ht)
  have HB2 := Lib.hid (HB1.out.trans (hm.below.mono HB1.out.size))
  have H12 := Lib.hid hm.below
  clear hm
  go_wp2_with (go_at_call 8; refine (tell_nil _).mono ?_; rintro e w3 ⟨rfl, hb⟩; have HB3 := Lib.hid (HB2.out.trans (hb.mono HB2.out.size)); have H13 := Lib.hid (H12.out.trans (hb.mono H12.out.size)); have H23 := Lib.hid hb; clear hb)
  have HP3 := Lib.hid (HP1.out.later H13.out)
  have HS3 := Lib.hid (HS.out.later HB3.out)
  refine (allStill_fine (.slice va n vc) a b o n c (w.alloc (.cells #[I D, I L, I G] 46)).heap.size S β w3 HS3.out.addr HS3.out.out HS3.out.ok hs.out (by omega) (fun h0 => by have := HS.out.out.lt h0; omega) (fun i hi h0 => by have := (HS.out.ok i hi).rd.lt h0; omega) ((HV1.out.later H13.out)) (HR1.out.later H13.out)).mono ?_
  rintro e w4 ⟨rfl, hu4⟩
  have HB4 := Lib.hid (Below.upd HB3.out hu4 (fun t ⟨j, hj, e⟩ => by have := (HBX.out j hj).1; omega) HB3.out.size)
  have hp := HP3.out.upd hu4 (fun _ ⟨j, hj, e⟩ => by have := (HBX.out j hj).1; omega)
  have b0 : w4.cell? ⟨w.heap.size, 0, none⟩ = some (I D) := hp 0 (by omega)
  have b1 : w4.cell? ⟨w.heap.size, 1, none⟩ = some (I L) := hp 1 (by omega)
  have b2 : w4.cell? ⟨w.heap.size, 2, none⟩ = some (I G) := hp 2 (by omega)
  clear hp
  have HU4 := Lib.hid hu4
  clear hu4
  go_wp2_with (go_at_call 17; refine (theirs_any D L G _).mono ?_; rintro e w5 ⟨rfl, hb⟩; have H45 := Lib.hid (hb.alloc hb.size (.cells #[I D, I L, I G] 50)); clear hb)
  have HB5 := Lib.hid (HB4.out.trans (H45.out.mono HB4.out.size))
  have HS5 := Lib.hid (HS.out.later HB5.out)
  refine (HF.out _ HS5.out.addr HS5.out.out HS5.out.ok HS5.out.cap (by omega)).mono ?_
  rintro e w6 (⟨_, v6, δ, rfl, hm⟩ | ⟨hno, _, _⟩)
  case inr => exact absurd HP.out hno
  have HB6 := Lib.hid (HB5.out.trans (hm.below.mono HB5.out.size))
  obtain ⟨a7, a7', b7, b7', c7, c7', rfl, rfl, ht⟩ := mr_twin (G := fun t => ∃ j, j < n ∧ t = β j) HM.out (((Upd.of_below H23.out).mono fun _ _ h => h.elim).trans HU4.out fun _ e _ => e) (fun t ⟨j, hj, e⟩ => by have := (HBX.out j hj).2; omega) H45.out hm
  have HSA := Lib.hid (sameAll_yes a7 a7' b7 b7' (D + L + G) c7 c7' (S 0).n γ δ (encM D L (fun q => (S q).x)) w6 ht (by omega) (by omega))
  have HMO := Lib.hid HM.out.own
  have hsz1 := HB1.out.size
  clear ht hm
  go_wp2_with (first | (go_at_call 19; refine HSA.out.mono ?_; rintro e w7 ⟨rfl, hu⟩; have HB7 := Lib.hid (Below.upd HB6.out hu (fun t ⟨j, hj, e⟩ => by have := HMO.out j hj; omega) HB6.out.size); clear hu) | (go_at_call 11; refine (num_any _ _).mono ?_; rintro e w8 ⟨rfl, rfl⟩))
  go_ret
  exact ⟨by simp, HB7.out⟩

theorem encodes_walk (D L G : Int) (a : Option Addr) (b o n c : Nat) (S : Nat → Sl) (w : World) (h : Rws w a b o n c S) (hl : Laid w) :
    Calls Tryd.prog 6 #[PV D L G, .slice a n c] w (LawTrue w) := by
  by_cases hR : RightI D L G
  · obtain ⟨d, l, g, rfl, rfl, rfl, hR⟩ := hR
    by_cases hP : EncP d n S
    · exact encodes_yes d l g hR a b o n c S w h hP
    · refine encodes_no d l g 2 a b o n c S w h hl (by decide) (fun a' b' c' β w' h1 h2 h3 h4 h5 => ?_) (fun w' h1 h5 => ?_)
      · refine (sEncode_ok d l g hR a' b' 0 n c' (roomS S β) w' h1 h2 h3 h4 (by omega)).mono ?_
        rintro e w2 (⟨hy, _⟩ | ⟨_, h⟩)
        · exact absurd hy hP
        · exact h
      · refine (refEncode_ok d l g hR a b o n c S w' h1.addr h1.out h1.ok h1.cap (by omega)).mono ?_
        rintro e w2 (⟨hy, _⟩ | ⟨_, h⟩)
        · exact absurd hy hP
        · exact h
  · exact encodes_no D L G 1 a b o n c S w h hl (by decide) (fun a' b' c' β w' _ _ _ _ _ => sEncode_bad D L G hR _ w') (fun w' _ _ => refEncode_bad D L G hR _ w')
end Go.Proofs.YthaamnjpjkkolaaDoor
