import Derived.Test.YthaamnjpjkkolabDoorRunS
import Derived.Test.YthaamnjpjkkolabDoorSln
import Derived.Test.YthaamnjpjkkolabDoorRefStep
import Derived.Test.YthaamnjpjkkolabDoorMaMat
import Derived.Deep.DeepCutAuto
/- The reference's Run. -/
namespace Go.Proofs.YthaamnjpjkkolabDoor
open Go.RowKit Go.Proofs
set_option maxRecDepth 100000
set_option linter.unusedVariables false

def refX (D : Nat → Sl) : Nat → Nat → UInt8 := fun j => (D j).x
def refN (S : Nat → Stp) (D : Nat → Sl) (n : Nat) : Nat := (max (firstN S (lenS D) n) 0).toNat
def hereG (gone : Nat → Bool) (j : Nat) : Prop := gone j = false

def RefRunIs (w : World) (regs : Int) (n : Nat) (S : Nat → Stp) (m : Nat) (D : Nat → Sl) (gone : Nat → Bool) (e : Ending) (w' : World) : Prop :=
  (OkP regs n S (m : Int) ∧ LoadTo S (hereG gone) (lenS D) n ∧ (∃ v γ, e = .returned (.tuple #[v, I 0]) ∧ Outs w.heap.size 70 w' v (outL (refX D) S n) (refN S D n) γ) ∨
   OkP regs n S (m : Int) ∧ ¬ LoadTo S (hereG gone) (lenS D) n ∧ e = .returned (.tuple #[.slice none 0 0, I 2]) ∨
   ¬ OkP regs n S (m : Int) ∧ e = .returned (.tuple #[.slice none 0 0, I 4])) ∧ Below w.heap.size w w'

theorem Gm.mx {w wr : World} {v : Value} {k W : Nat} {M : Lin.Mat} {β : Nat → Nat} (h : Gm w wr v k W M β) (hk : 0 < k) : ∃ b c, v = .slice (some ⟨b, 0, none⟩) k c ∧ w.heap.size ≤ b ∧ Mx wr b k W β M := by
  obtain ⟨a, b, c, rfl, ha, hr, hc, hb, _⟩ := h.vc.shape
  obtain rfl := ha hk
  refine ⟨b, c, rfl, (hb hk).1, hr, h.row, h.kd, fun i j hi hj e => ?_, (hb hk).2⟩
  rcases Nat.lt_trichotomy i j with h1 | h1 | h1
  · have := h.up i j h1 hj; omega
  · exact h1
  · have := h.up j i h1 hi; omega
theorem Upd.undrewN' {G : Nat → Prop} {w w' : World} {n : Nat} (h : Upd G (w.drewN n) w') : Upd G w w' := ⟨h.os, h.tape, h.output, h.size, h.block⟩

theorem infoRO : (Tryd.prog.info? 70).map (fun i => (i.zero, i.size, i.bytes)) = some (some (.agg #[.int .i64 0, .slice none 0 0]), 2, 32) := by kernel_rfl

set_option maxHeartbeats 8000000 in
theorem refRun_anyN (a a' a2 : Option Addr) (b b' b2 o o' o2 n m c c' c2 : Nat) (S : Nat → Stp) (D : Nat → Sl) (gone : Nat → Bool) (regs : Int) (w : World) (h : Stps w a b o n c fun i => rc (S i)) (hD : Rwn w a' b' o' m c' D) (hsz : ∀ i, i < m → (D i).n ≤ 100000)
    (ha2 : 0 < m → a2 = some ⟨b2, o2, none⟩) (hg : Rd w b2 o2 m (fun i => .bool (gone i))) (hc2 : m ≤ c2) :
    Calls Tryd.prog 19 #[.agg #[I regs, .slice a n c], .slice a' m c', .slice a2 m c2] w (RefRunIs w regs n S m D gone) := by
  have HS := Lib.hid h
  have HD := Lib.hid hD
  have HG := Lib.hid hg
  have HA2 := Lib.hid ha2
  have HSZ := Lib.hid hsz
  have hcap := h.cap; have hmax := h.max; have hcd := hD.cap; have hmd := hD.max
  clear h hD hg ha2 hsz
  have HB := Lib.hid ((Below.refl w.heap.size w).alloc (Nat.le_refl _) (.cells #[I regs, .slice a n c] 51))
  have HP := Lib.hid (Pair.new w 51 (I regs) (.slice a n c))
  go_enter Tryd.func19, Tryd.ntmps19
  go_wp2_with fail
  refine (refCheck_any a b o n c S regs (m : Int) _ (HS.out.later HB.out)).mono ?_
  rintro e w1 ⟨⟨hP, rfl⟩ | ⟨hP, rfl⟩, hb1⟩
  case inr =>
    have HQ := Lib.hid hP
    have HB1 := Lib.hid (HB.out.trans (hb1.mono (by rw [World.size_alloc]; omega)))
    clear hP hb1
    go_wp2_with fail
    go_ret2
    exact ⟨.inr (.inr ⟨HQ.out, rfl⟩), HB1.out⟩
  have HQ := Lib.hid hP
  have hr0 := hP.1; have hr1 := hP.2.1; have hn2 := hP.2.2.1
  have HO := Lib.hid hP.2.2.2
  have HB1 := Lib.hid (HB.out.trans (hb1.mono (by rw [World.size_alloc]; omega)))
  have HP1 := Lib.hid (HP.out.later hb1)
  have hs1 : w.heap.size < w1.heap.size := HP1.out.kd.lt
  clear hP hb1
  go_wp2_with fail
  go_loopg [9, 10] n (fun g v i wr => ∃ k : Nat, g = n - k ∧ k ≤ n ∧ i = I k ∧ v = I (firstN S (lenS D) k) ∧ Below w1.heap.size w1 wr ∧ LoadTo S (hereG gone) (lenS D) k)
  case atStart => exact ⟨0, rfl, by omega, rfl, rfl, Below.refl _ _, fun i hi => absurd hi (by omega)⟩
  case round =>
    obtain ⟨k, rfl, hk, rfl, rfl, hb, hl⟩ := hrel
    have HBr := Lib.hid hb
    have HBw := Lib.hid (HB1.out.trans (hb.mono HB1.out.size))
    have HL := Lib.hid hl
    have hsr : w1.heap.size ≤ wr.heap.size := hb.size
    have hf1 := firstN_ge S (lenS D) k
    have hf2 := firstN_max hl
    have p1 : wr.cell? ⟨w.heap.size, 1, none⟩ = some (.slice a n c) := (HP1.out.later hb).c1
    clear hb hl
    by_cases hlt : k < n
    · obtain rfl := HS.out.addr (by omega)
      have hat := (HS.out.later HBw.out).rd.at4 hlt
      have hst := HO.out k hlt
      have HBAD := Lib.hid (fun (h : LoadTo S (hereG gone) (lenS D) n) => h k hlt)
      have HNX := Lib.hid (fun (h : ¬ ((S k).k.toNat = 0 ∧ firstN S (lenS D) k < 0)) => (show firstN S (lenS D) (k + 1) = firstN S (lenS D) k by rw [firstN, if_neg h]))
      have HNY := Lib.hid (fun (h : (S k).k.toNat = 0 ∧ firstN S (lenS D) k < 0) => (show firstN S (lenS D) (k + 1) = (lenS D (S k).b.toNat : Int) by rw [firstN, if_pos h]))
      obtain ⟨s, hs⟩ : ∃ s, s = S k := ⟨_, rfl⟩
      rw [← hs] at hat hst HBAD HNX HNY
      have c0 : wr.cell? ⟨b, o + k * 4, none⟩ = some (I (s.k.toNat : Int)) := hat.c0
      have c1 : wr.cell? ⟨b, o + k * 4 + 1, none⟩ = some (I s.a) := hat.c1
      have c3 : wr.cell? ⟨b, o + k * 4 + 3, none⟩ = some (B s.c) := hat.c3
      have c2 : wr.cell? ⟨b, o + k * 4 + 2, none⟩ = some (I s.b) := hat.c2
      have HSk := Lib.hid hs
      have HYES := Lib.hid (fun h => HL.out.next (hs ▸ h))
      clear hs hat
      have HN := Lib.hid (HBr.out.alloc hsr (.cells #[I (s.k.toNat : Int), I s.a, I s.b, B s.c] 86))
      have HNw := Lib.hid (HBw.out.alloc HBw.out.size (.cells #[I (s.k.toNat : Int), I s.a, I s.b, B s.c] 86))
      by_cases k0 : s.k.toNat = 0
      case neg =>
        have t1 := ntrue (a := (s.k.toNat : Int)) (b := 0) (by omega)
        have HE := Lib.hid (HNX.out fun h => k0 h.1)
        have HY := Lib.hid (HYES.out fun h => absurd h k0)
        clear k0
        go_wp2_with fail
        go_roundg (n - (k + 1))
        case measure => omega
        case rel => exact ⟨k + 1, rfl, by omega, by go_num, by rw [HE.out], HN.out, HY.out⟩
      have t1 := nfalse (a := (s.k.toNat : Int)) (b := 0) (by omega)
      have HK0 := Lib.hid k0
      have hsb : 0 ≤ s.b ∧ s.b < (m : Int) := by unfold OkStep at hst; omega
      obtain ⟨j, hj⟩ : ∃ j : Nat, s.b = (j : Int) := ⟨s.b.toNat, by omega⟩
      have hjm : j < m := by omega
      have hsbj : s.b.toNat = j := by omega
      rw [hsbj] at HBAD HNY HYES
      rw [hj] at c2 HN HNw
      clear k0 hst hsb hj hsbj
      obtain rfl := HD.out.addr (by omega)
      obtain rfl := HA2.out (by omega)
      have d0 : wr.cell? ⟨b', o' + j, none⟩ = some (.slice (D j).a (D j).n (D j).c) := (HD.out.later HBw.out).out j hjm
      have d1 : wr.cell? ⟨b2, o2 + j, none⟩ = some (.bool (gone j)) := (HG.out.later HBw.out) j hjm
      have hn1 : (D j).n ≤ 100000 := HSZ.out j hjm
      have hbl : b' < wr.heap.size := World.block_lt_of_cell? _ _ d0
      have hbl2 : b2 < wr.heap.size := World.block_lt_of_cell? _ _ d1
      have HNj := Lib.hid (show lenS D j = (D j).n from rfl)
      have HHj := Lib.hid (show hereG gone j ↔ gone j = false from Iff.rfl)
      generalize (D j).n = nj at *
      generalize (D j).c = cj at *
      generalize (D j).a = aj at *
      cases hgo : gone j with
      | true =>
        have HGO := Lib.hid hgo
        rw [hgo] at d1
        clear hgo
        by_cases hF : firstN S (lenS D) k < 0
        · have hFb := decide_eq_true hF
          go_wp2_with fail
          go_ret2
          exact ⟨.inr (.inl ⟨HQ.out, fun h => (by have h1 := HHj.out.1 (HBAD.out h HK0.out).1; rw [HGO.out] at h1; cases h1), rfl⟩), HNw.out⟩
        · have hFb := decide_eq_false hF
          go_wp2_with fail
          go_ret2
          exact ⟨.inr (.inl ⟨HQ.out, fun h => (by have h1 := HHj.out.1 (HBAD.out h HK0.out).1; rw [HGO.out] at h1; cases h1), rfl⟩), HNw.out⟩
      | false =>
        have HHy := Lib.hid (HHj.out.2 hgo)
        rw [hgo] at d1
        clear hgo
        by_cases hF : firstN S (lenS D) k < 0
        · have hFb := decide_eq_true hF
          have HE := Lib.hid (HNY.out ⟨HK0.out, hF⟩)
          rw [HNj.out] at HE
          have hnn : ((nj : Int) != (nj : Int)) = false := by simp
          by_cases h4 : 4096 < nj
          · go_wp2_with fail
            go_ret2
            exact ⟨.inr (.inl ⟨HQ.out, fun h => by have h1 := (HBAD.out h HK0.out).2.2; rw [HE.out] at h1; omega, rfl⟩), HNw.out⟩
          · go_wp2_with fail
            go_roundg (n - (k + 1))
            case measure => omega
            case rel => exact ⟨k + 1, rfl, by omega, by go_num, by rw [HE.out], HN.out, HYES.out fun _ => ⟨HHy.out, by rw [HE.out, HNj.out], by rw [HE.out]; omega⟩⟩
        · have hFb := decide_eq_false hF
          have HE := Lib.hid (HNX.out fun h => hF h.2)
          by_cases hne : (nj : Int) = firstN S (lenS D) k
          · have hnn := nfalse hne
            have HQ2 := Lib.hid hne
            clear hne
            go_wp2_with fail
            go_roundg (n - (k + 1))
            case measure => omega
            case rel => exact ⟨k + 1, rfl, by omega, by go_num, by rw [HE.out], HN.out, HYES.out fun _ => ⟨HHy.out, by rw [HE.out, HNj.out, HQ2.out], by rw [HE.out]; omega⟩⟩
          · have hnn := ntrue hne
            have HQ2 := Lib.hid hne
            clear hne
            go_wp2_with fail
            go_ret2
            exact ⟨.inr (.inl ⟨HQ.out, fun h => by have h1 := (HBAD.out h HK0.out).2.1; rw [HE.out, HNj.out] at h1; exact HQ2.out h1, rfl⟩), HNw.out⟩
    · obtain rfl : n = k := by omega
      obtain ⟨N, hN⟩ : ∃ N : Nat, N = refN S D n := ⟨_, rfl⟩
      have hNI : max (firstN S (lenS D) n) 0 = (N : Int) := by rw [hN]; unfold refN; omega
      have hN4 : N ≤ 4096 := by omega
      have HNr := Lib.hid hN
      have HNI := Lib.hid hNI
      have HLn := Lib.hid (fun i hi hk => (load_len HL.out (i := i) hi hk).trans hNI)
      clear hN hNI hlt
      go_upto_if 70 with (fail)
      go_cut [9] (fun v wx => v = I N ∧ wx = wr)
      case first =>
        by_cases hF : firstN S (lenS D) n < 0
        · have hz : (N : Int) = 0 := by have := HNI.out; omega
          have HZ := Lib.hid hz
          clear hz
          go_wp2_with fail
          go_meet
          exact ⟨by rw [HZ.out], rfl⟩
        · have hz : (N : Int) = firstN S (lenS D) n := by have := HNI.out; omega
          have HZ := Lib.hid hz
          clear hz
          go_wp2_with fail
          go_meet
          exact ⟨by rw [HZ.out], rfl⟩
      case rest =>
        obtain ⟨rfl, rfl⟩ := hcut
        obtain ⟨wx, rfl⟩ : ∃ wx, wx = wc := ⟨_, rfl⟩
        obtain ⟨R, rfl⟩ : ∃ R : Nat, regs = (R : Int) := ⟨regs.toNat, by omega⟩
        have hR : R ≤ 32 := by omega
        have HPr := Lib.hid (HP1.out.later HBr.out)
        have hwr0 : w.heap.size < wx.heap.size := by omega
        have hmb := make_bytes (N : Int) (by omega) (by omega)
        simp only [Int.toNat_natCast] at hmb
        clear p1 hf1 hf2 HB1 HP1
        go_wp2_with fail
        go_loopg [12, 13] R (fun g v i w3 => ∃ (k : Nat) (β : Nat → Nat), g = R - k ∧ k ≤ R ∧ i = I k ∧ Gm wx w3 v k N (fun _ _ => 0) β)
        case atStart => exact ⟨0, fun _ => 0, rfl, by omega, rfl, Gm.start (Below.refl _ _)⟩
        case round =>
          obtain ⟨k, β, rfl, hk, rfl, hg⟩ := hrel
          have HGm := Lib.hid hg
          have p0 : wr.cell? ⟨w.heap.size, 0, none⟩ = some (I R) := (HPr.out.later hg.below).c0
          have hs2 : wx.heap.size ≤ wr.heap.size := hg.below.size
          clear hg
          by_cases hlt : k < R
          · have HV := Lib.hid (HGm.out.vc.alloc (.cells (madeCells #[.int .u8 0] N) 5))
            go_wp2_with (refine wpList_append_at rfl (.tmp 77) (.tmp 80) 24 rfl wx.heap.size 28 (.slice none 0 0) 24 Tryd.underlying24 infoBs rfl _ k _ rfl HV.out (.slice (some ⟨wr.heap.size, 0, none⟩) N N) _ (wr.heap.size + 1) (by rw [World.size_alloc]) rfl rfl (by omega) (by omega) (by rw [World.size_alloc]; omega) ?_; intro v3 w3 hv3 hu3; have HV3 := Lib.hid hv3; have HU3 := Lib.hid hu3; clear hv3 hu3)
            go_roundg (R - (k + 1))
            case measure => omega
            case rel => exact ⟨k + 1, _, rfl, by omega, by go_num, HGm.out.next (Upd.refl _ _) ((Row.new wr (.int .u8 0) N 5).congr fun _ _ => rfl) (Kd.new _ _ _) HV3.out HU3.out⟩
          · obtain rfl : R = k := by omega
            obtain ⟨ra, gb, rcp, hv, hra, hgr, hgb, hgm⟩ : ∃ (ra : Option Addr) (gb rcp : Nat), _ = Value.slice ra R rcp ∧ (0 < R → ra = some ⟨gb, 0, none⟩) ∧ True ∧ (0 < R → wx.heap.size ≤ gb) ∧ (0 < R → Mx wr gb R N β (fun _ _ => 0)) := by
              by_cases h0 : 0 < R
              · obtain ⟨gb, rcp, hv, h1, h2⟩ := HGm.out.mx h0
                exact ⟨_, gb, rcp, hv, fun _ => rfl, trivial, fun _ => h1, fun _ => h2⟩
              · obtain ⟨ra, gb, rcp, hv, _⟩ := HGm.out.vc.shape
                exact ⟨ra, gb, rcp, hv, fun h => absurd h h0, trivial, fun h => absurd h h0, fun h => absurd h h0⟩
            subst hv
            have HRA := Lib.hid hra
            have HGB := Lib.hid hgb
            have HMX := Lib.hid hgm
            have HOWN := Lib.hid HGm.out.own
            have HKD := Lib.hid HGm.out.kd
            have HBb := Lib.hid HGm.out.below
            have hBl : ∀ r, r < R → β r < wr.heap.size := fun r hr => (HGm.out.kd r hr).lt
            have HBl := Lib.hid hBl
            clear hra hgr hgb hgm hBl HGm hlt
            obtain ⟨wz, rfl⟩ : ∃ wz, wz = wr := ⟨_, rfl⟩
            go_wp2_with fail
            clear p0
            go_loopg [14, 15] n (fun g u i w5 => ∃ (k : Nat) (γ : Nat → Nat), g = n - k ∧ k ≤ n ∧ i = I k ∧ Below wx.heap.size wx w5 ∧ (0 < R → Mx w5 gb R N β (regsAt (refX D) S k)) ∧ Outs wx.heap.size 70 w5 u (outL (refX D) S k) N γ ∧ (∀ j, j < (outL (refX D) S k).length → ∀ r, r < R → γ j ≠ β r))
            case atStart => exact ⟨0, fun _ => 0, rfl, by omega, rfl, HBb.out, HMX.out, Outs.start _ _ _ _ _, fun j hj => absurd hj (by simp [outL])⟩
            case round =>
              obtain ⟨k, γ, rfl, hk, rfl, hb, hmx, hou, hsep⟩ := hrel
              have HBr := Lib.hid hb
              have HBw2 := Lib.hid (HBw.out.trans (hb.mono HBw.out.size))
              have HU := Lib.hid hou
              have HSP := Lib.hid hsep
              obtain ⟨ua, ub, uc, rfl, hue, hub, _⟩ := hou.vz.shape
              have hol := outL_len (refX D) S k
              have p1 : wr.cell? ⟨w.heap.size, 1, none⟩ = some (.slice a n c) := (HPr.out.later hb).c1
              have hs5 : wx.heap.size ≤ wr.heap.size := hb.size
              by_cases hlt : k < n
              · obtain rfl := HS.out.addr (by omega)
                have hst := HO.out k hlt
                have hR0 : 0 < R := by unfold OkStep at hst; omega
                obtain rfl := HRA.out hR0
                have HM := Lib.hid (hmx hR0)
                have hgb := HGB.out hR0
                clear hb hmx hou hsep hue hub
                have hat := (HS.out.later HBw2.out).rd.at4 hlt
                have HRG := Lib.hid (show regsAt (refX D) S (k + 1) = stepR (refX D) (S k) (regsAt (refX D) S k) from rfl)
                have HOL := Lib.hid (show outL (refX D) S (k + 1) = if (S k).k.toNat = 2 then outL (refX D) S k ++ [((S k).b, regsAt (refX D) S k (S k).a.toNat)] else outL (refX D) S k from rfl)
                have HLk := Lib.hid (fun hk => HLn.out k hlt hk)
                obtain ⟨s, hs⟩ : ∃ s, s = S k := ⟨_, rfl⟩
                rw [← hs] at hat hst HRG HOL HLk
                obtain ⟨A, hA⟩ : ∃ A : Nat, s.a = (A : Int) := ⟨s.a.toNat, by unfold OkStep at hst; omega⟩
                have hAR : A < R := by unfold OkStep at hst; omega
                have hAI : (A : Int) < (R : Int) := by omega
                have c0 : wr.cell? ⟨b, o + k * 4, none⟩ = some (I (s.k.toNat : Int)) := hat.c0
                have c1 : wr.cell? ⟨b, o + k * 4 + 1, none⟩ = some (I (A : Int)) := hA ▸ hat.c1
                have c2 : wr.cell? ⟨b, o + k * 4 + 2, none⟩ = some (I s.b) := hat.c2
                have c3 : wr.cell? ⟨b, o + k * 4 + 3, none⟩ = some (B s.c) := hat.c3
                have HAA := Lib.hid (show s.a.toNat = A by omega)
                have HSk := Lib.hid hs
                have hgl : gb < wr.heap.size := HM.out.gk.lt
                have HST := Lib.hid hst
                obtain ⟨sb, hsb⟩ : ∃ sb, sb = s.b := ⟨_, rfl⟩
                rw [← hsb] at c2
                have HSB := Lib.hid hsb
                clear hs hat hA hst hsb
                have HF1 := Lib.hid (Row.new4 wr (I (s.k.toNat : Int)) (I (A : Int)) (I sb) (B s.c) 86)
                have HM2 := Lib.hid (HM.out.later' ((Below.refl _ _).alloc (Nat.le_refl _) (.cells #[I (s.k.toNat : Int), I (A : Int), I sb, B s.c] 86)))
                have HU2 := Lib.hid (HU.out.later ((Below.refl _ _).alloc (Nat.le_refl _) (.cells #[I (s.k.toNat : Int), I (A : Int), I sb, B s.c] 86)))
                have HB3 := Lib.hid (HBr.out.alloc HBr.out.size (.cells #[I (s.k.toNat : Int), I (A : Int), I sb, B s.c] 86))
                have hs4 : wr.heap.size < (wr.alloc (.cells #[I (s.k.toNat : Int), I (A : Int), I sb, B s.c] 86)).heap.size := by rw [World.size_alloc]; omega
                have hBA : wx.heap.size ≤ β A := HOWN.out A hAR
                have hBA2 : β A < wr.heap.size := (HM.out.kd A hAR).lt
                have x1 : (wr.alloc (.cells #[I (s.k.toNat : Int), I (A : Int), I sb, B s.c] 86)).cell? ⟨gb, A, none⟩ = some (.slice (some ⟨β A, 0, none⟩) N N) := by have := HM2.out.outer.cell A hAR; rwa [Nat.zero_add] at this
                rcases (show s.k.toNat = 0 ∨ s.k.toNat = 1 ∨ s.k.toNat = 2 by have := HST.out; unfold OkStep at this; omega) with e | e | e
                · have t0 := btrue (a := (s.k.toNat : Int)) (b := 0) (by omega)
                  have HE := Lib.hid e
                  clear e
                  obtain ⟨j, hj⟩ : ∃ j : Nat, sb = (j : Int) := ⟨sb.toNat, by have := HST.out; unfold OkStep at this; have := HE.out; have := HSB.out; omega⟩
                  have hjm : j < m := by have := HST.out; unfold OkStep at this; have := HE.out; have := HSB.out; omega
                  subst hj
                  have hjI : (j : Int) < (m : Int) := by omega
                  have HBj := Lib.hid (show s.b.toNat = j by have := HSB.out; omega)
                  have HNj := Lib.hid (show (D j).n = N by
                    have h1 := HLk.out HE.out
                    rw [HBj.out] at h1
                    unfold lenS at h1; omega)
                  obtain rfl := HD.out.addr (by omega)
                  have hbl' : b' < w.heap.size := HD.out.out.lt (by omega)
                  have HDw := Lib.hid (HD.out.later (HBw2.out.alloc HBw2.out.size (.cells #[I (s.k.toNat : Int), I (A : Int), I (j : Int), B s.c] 86)))
                  have HDa := Lib.hid (HD.out.ok j hjm).addr
                  have x2 : (wr.alloc (.cells #[I (s.k.toNat : Int), I (A : Int), I (j : Int), B s.c] 86)).cell? ⟨b', o' + j, none⟩ = some (.slice (D j).a N (D j).c) := by
                    have := HDw.out.out j hjm
                    rw [this]
                    show some (Value.slice (D j).a (D j).n (D j).c) = _
                    rw [HNj.out]
                  have HXj := Lib.hid (show Rd (wr.alloc (.cells #[I (s.k.toNat : Int), I (A : Int), I (j : Int), B s.c] 86)) (D j).b (D j).o N (bs (D j).x) from HNj.out ▸ (HDw.out.ok j hjm).rd)
                  go_wp2_with fail
                  generalize wr.alloc (.cells #[I (s.k.toNat : Int), I (A : Int), I (j : Int), B s.c] 86) = W1 at *
                  have e0 := HF1.out.c0; have e1 := HF1.out.c1; have e2 := HF1.out.c2
                  go_still_tail 10, (by kernel_rfl)
                  change wpList _ _ _ _ _ (W1.drewN 1)
                  go_wp2_with (refine wpList_copy_fn rfl (.tmp 102) (.tmp 107) 28 28 rfl 5 Tryd.underlying28 sizeU8 _ _ _ _ _ _ rfl rfl N (β A) 0 N (D j).b (D j).o (bs (regsAt (refX D) S k A)) (bs (D j).x) (by show N = min N N; omega) (Nat.le_refl _) ((HM2.out.rows A hAR).drewN 1) (HXj.out.drewN 1) (fun _ => rfl) (fun h0 => HDa.out (by have := HNj.out; omega)) (fun _ _ => rfl) ?_; intro w3 hu3 hz3 hk3 hr3; have HU3 := Lib.hid hu3; have HK3 := Lib.hid hk3; have HR3 := Lib.hid hr3; have HZ3 := Lib.hid hz3; clear hu3 hz3 hk3 hr3)
                  go_roundg (n - (k + 1))
                  case measure => omega
                  case rel =>
                    have hU : Upd (· = β A) W1 w3 := HU3.out.undrewN'
                    have eL : outL (refX D) S (k + 1) = outL (refX D) S k := by rw [HOL.out, if_neg (show ¬ s.k.toNat = 2 by have := HE.out; omega)]
                    refine ⟨k + 1, γ, rfl, by omega, by go_num, Below.upd HB3.out hU (fun b e => by omega) (by omega), fun _ => ?_, ?_, ?_⟩
                    · refine (HM2.out.turn hAR hU HK3.out (HR3.out.congr (g := bs (D j).x) fun t ht => by simp [ht])).congr fun r hr t ht => ?_
                      rw [HRG.out]; unfold stepR; rw [if_pos HE.out, HAA.out, HBj.out]
                      by_cases e : r = A
                      · simp only [if_pos e]; rfl
                      · simp only [if_neg e]
                    · rw [eL]
                      exact HU2.out.upd hU (fun j hj e => HSP.out j hj A hAR e) fun t ht e => HU2.out.vz.block_ne (HM2.out.kd A hAR) (by decide) t ht e
                    · rw [eL]; exact HSP.out
                · have t0 := bfalse (a := (s.k.toNat : Int)) (b := 0) (by omega)
                  have t1 := btrue (a := (s.k.toNat : Int)) (b := 1) (by omega)
                  have HE := Lib.hid e
                  clear e
                  obtain ⟨j, hj⟩ : ∃ j : Nat, sb = (j : Int) := ⟨sb.toNat, by have := HST.out; unfold OkStep at this; have := HE.out; have := HSB.out; omega⟩
                  have hjm : j < R := by have := HST.out; unfold OkStep at this; have := HE.out; have := HSB.out; omega
                  have hjA : j ≠ A := by have := HST.out; unfold OkStep at this; have h1 := HE.out; have h2 := HAA.out; have := HSB.out; omega
                  subst hj
                  have hjI : (j : Int) < (R : Int) := by omega
                  have HBj := Lib.hid (show s.b.toNat = j by have := HSB.out; omega)
                  have x2 : (wr.alloc (.cells #[I (s.k.toNat : Int), I (A : Int), I (j : Int), B s.c] 86)).cell? ⟨gb, j, none⟩ = some (.slice (some ⟨β j, 0, none⟩) N N) := by have := HM2.out.outer.cell j hjm; rwa [Nat.zero_add] at this
                  go_wp2_with fail
                  generalize wr.alloc (.cells #[I (s.k.toNat : Int), I (A : Int), I (j : Int), B s.c] 86) = W1 at *
                  have hgW : gb < W1.heap.size := by omega
                  have hne : β j ≠ β A := fun e => hjA (HM2.out.inj j A hjm hAR e)
                  have hgA : gb ≠ β A := fun e => HM2.out.ne hAR e.symm
                  have hsA : wr.heap.size ≠ β A := by omega
                  have HNE := Lib.hid hne
                  have HGA := Lib.hid hgA
                  have HSA := Lib.hid hsA
                  obtain ⟨xa, hxa⟩ : ∃ f : Nat → UInt8, f = regsAt (refX D) S k A := ⟨_, rfl⟩
                  obtain ⟨xb, hxb⟩ : ∃ f : Nat → UInt8, f = regsAt (refX D) S k j := ⟨_, rfl⟩
                  have HRA2 := Lib.hid (hxa ▸ HM2.out.rows A hAR)
                  have HRB := Lib.hid (hxb ▸ HM2.out.rows j hjm)
                  have HXA := Lib.hid hxa
                  have HXB := Lib.hid hxb
                  clear hxa hxb hne hgA hsA
                  obtain ⟨wo, rfl⟩ : ∃ wo, wo = wr := ⟨_, rfl⟩
                  go_loopg [17, 18] N (fun g kk xx w6 => ∃ q : Nat, g = N - q ∧ q ≤ N ∧ kk = I q ∧ Doing W1 w6 (β A) N q xa (fun t => xa t ^^^ Gf.mul s.c (xb t)))
                  case atStart => exact ⟨0, rfl, by omega, rfl, Doing.start HRA2.out⟩
                  case round =>
                    obtain ⟨q, rfl, hq, rfl, hd⟩ := hrel
                    have HDo := Lib.hid hd
                    have hf := HF1.out.upd hd.upd HSA.out
                    have e1 := hf.c1; have e2 := hf.c2; have e3 := hf.c3
                    have y1 : wr.cell? ⟨gb, A, none⟩ = some (.slice (some ⟨β A, 0, none⟩) N N) := (World.cell?_of_block (a := ⟨gb, A, none⟩) (hd.upd.block gb hgW HGA.out)).trans x1
                    have y2 : wr.cell? ⟨gb, j, none⟩ = some (.slice (some ⟨β j, 0, none⟩) N N) := (World.cell?_of_block (a := ⟨gb, j, none⟩) (hd.upd.block gb hgW HGA.out)).trans x2
                    clear hd hf
                    by_cases hlq : q < N
                    · have hqI : (q : Int) < (N : Int) := by omega
                      have z1 : wr.cell? ⟨β j, q, none⟩ = some (B (xb q)) := by have := (HRB.out.upd HDo.out.upd fun _ => HNE.out).cell q hlq; rwa [Nat.zero_add] at this
                      have z2 : wr.cell? ⟨β A, q, none⟩ = some (B (xa q)) := HDo.out.cellAt hlq
                      have z3 : wr.frozen? ⟨β A, q, none⟩ = false := HDo.out.freeAt hlq
                      go_wp2_with fail
                      go_still_tail 10, (by kernel_rfl)
                      change wpList _ _ _ _ _ (wr.drewN 1)
                      go_wp2_with (go_at_call 36; refine (refMul_any s.c (xb q) _).mono ?_; rintro e w7 ⟨rfl, hw7⟩; have HD7 := Lib.hid (show Doing W1 w7 _ _ _ _ _ from hw7 ▸ HDo.out.drewN 1); have u1 : w7.cell? ⟨gb, A, none⟩ = some (.slice (some ⟨β A, 0, none⟩) N N) := hw7 ▸ y1; have u2 : w7.cell? ⟨β A, q, none⟩ = some (B (xa q)) := hw7 ▸ z2; have u3 : w7.frozen? ⟨β A, q, none⟩ = false := hw7 ▸ z3; have e1' : w7.cell? ⟨wo.heap.size, 1, none⟩ = some (I (A : Int)) := hw7 ▸ e1; clear hw7 y1 y2 z1 z2 z3 e1 e2 e3)
                      go_still_tail 17, (by kernel_rfl)
                      change wpList _ _ _ _ _ (w7.drewN 1)
                      go_wp2_with fail
                      go_roundg (N - (q + 1))
                      case measure => omega
                      case rel => exact ⟨q + 1, rfl, by omega, by go_num, (HD7.out.drewN 1).next hlq (xor8 _ _)⟩
                    · obtain rfl : N = q := by omega
                      have HDn := Lib.hid HDo.out.done
                      clear HDo
                      go_wp2_with fail
                      go_roundg (n - (k + 1))
                      case measure => omega
                      case rel =>
                        have hU := HDn.out.upd
                        have eL : outL (refX D) S (k + 1) = outL (refX D) S k := by rw [HOL.out, if_neg (show ¬ s.k.toNat = 2 by have := HE.out; omega)]
                        refine ⟨k + 1, γ, rfl, by omega, by go_num, Below.upd HB3.out hU (fun b e => by omega) (by omega), fun _ => ?_, ?_, ?_⟩
                        · refine (HM2.out.turn hAR hU HDn.out.kd HDn.out.row).congr fun r hr t ht => ?_
                          rw [HRG.out]; unfold stepR; rw [if_neg (show ¬ s.k.toNat = 0 by have := HE.out; omega), if_pos HE.out, HAA.out, HBj.out, HXA.out, HXB.out]
                        · rw [eL]
                          exact HU2.out.upd hU (fun j hj e => HSP.out j hj A hAR e) fun t ht e => HU2.out.vz.block_ne (HM2.out.kd A hAR) (by decide) t ht e
                        · rw [eL]; exact HSP.out
                · have t0 := bfalse (a := (s.k.toNat : Int)) (b := 0) (by omega)
                  have t1 := bfalse (a := (s.k.toNat : Int)) (b := 1) (by omega)
                  have t2 := btrue (a := (s.k.toNat : Int)) (b := 2) (by omega)
                  have HE := Lib.hid e
                  clear e
                  have HW1 := Lib.hid (World.size_alloc wr (.cells #[I (s.k.toNat : Int), I (A : Int), I sb, B s.c] 86))
                  go_upto_region 37 with fail
                  generalize wr.alloc (.cells #[I (s.k.toNat : Int), I (A : Int), I sb, B s.c] 86) = W1 at *
                  have HF2 := Lib.hid (HF1.out.later ((Below.refl _ _).alloc (Nat.le_refl _) (.cells (madeCells #[.int .u8 0] N) 5)))
                  have HM3 := Lib.hid (HM2.out.later' ((Below.refl _ _).alloc (Nat.le_refl _) (.cells (madeCells #[.int .u8 0] N) 5)))
                  have HR0 := Lib.hid (show Row _ (wr.heap.size + 1) _ _ _ from HW1.out ▸ Row.new W1 (.int .u8 0) N 5)
                  have HK0 := Lib.hid (show Kd _ (wr.heap.size + 1) _ from HW1.out ▸ Kd.new W1 (madeCells #[.int .u8 0] N) 5)
                  have HBW := Lib.hid ((Below.refl W1.heap.size W1).alloc (Nat.le_refl _) (.cells (madeCells #[.int .u8 0] N) 5))
                  have hsW : W1.heap.size < (W1.alloc (.cells (madeCells #[.int .u8 0] N) 5)).heap.size := by rw [World.size_alloc]; omega
                  clear x1 hmb
                  generalize W1.alloc (.cells (madeCells #[.int .u8 0] N) 5) = W2 at *
                  have e1 := HF2.out.c1
                  have x1 : W2.cell? ⟨gb, A, none⟩ = some (.slice (some ⟨β A, 0, none⟩) N N) := by have := HM3.out.outer.cell A hAR; rwa [Nat.zero_add] at this
                  go_upto_region 38 with (refine wpList_copy_fn rfl (.tmp 148) (.tmp 153) 28 28 rfl 5 Tryd.underlying28 sizeU8 _ _ _ _ _ _ rfl rfl N (wr.heap.size + 1) 0 N (β A) 0 (fun _ => .int .u8 0) (bs (regsAt (refX D) S k A)) (by show N = min N N; omega) (Nat.le_refl _) HR0.out (HM3.out.rows A hAR).rd (fun _ => rfl) (fun _ => rfl) (fun _ _ => rfl) ?_; intro w3 hu3 hz3 hk3 hr3; have HU3 := Lib.hid hu3; have HK3 := Lib.hid hk3; have HR3 := Lib.hid hr3; have HZ3 := Lib.hid hz3; clear hu3 hz3 hk3 hr3)
                  have hz3 := HZ3.out
                  have HB4 := Lib.hid (show Below W1.heap.size W1 w3 from Below.upd HBW.out HU3.out (fun b e => by have := HW1.out; omega) (by omega))
                  have HR4 := Lib.hid (HR3.out.congr (g := bs (regsAt (refX D) S k A)) fun t ht => by simp [ht])
                  have HK4 := Lib.hid (HK3.out _ _ HK0.out)
                  have e2 := (HF2.out.upd HU3.out (by omega)).c2
                  have HU5 := Lib.hid (HU2.out.later HB4.out)
                  have hs6 : wx.heap.size ≤ w3.heap.size := by omega
                  clear x1 e1 HR3 HZ3 hz3
                  go_wp2_with (refine wpList_append_z rfl (.tmp 155) (.tmp 160) 53 rfl wx.heap.size 70 (.agg #[.int .i64 0, .slice none 0 0]) 2 32 Tryd.underlying53 infoRO rfl (by omega) _ (outL (refX D) S k).length (outF γ N (outL (refX D) S k)) rfl HU5.out.vz #[I sb, .slice (some ⟨wr.heap.size + 1, 0, none⟩) N N] rfl 70 rfl (by simp [Value.oneCell']) (by omega) (by omega) (by omega) ?_; intro v4 w4 hv4 hu4; have HV4 := Lib.hid hv4; have HU4 := Lib.hid hu4; clear hv4 hu4)
                  go_roundg (n - (k + 1))
                  case measure => omega
                  case rel =>
                    have hlt4 : ∀ t, some t = (Value.slice ua (outL (refX D) S k).length uc).ownBlock → wx.heap.size ≤ t ∧ t < W1.heap.size := fun t e => HU2.out.vz.lt t e.symm
                    have eL : outL (refX D) S (k + 1) = outL (refX D) S k ++ [(sb, regsAt (refX D) S k A)] := by rw [HOL.out, if_pos HE.out, HAA.out, HSB.out]
                    have eR : regsAt (refX D) S (k + 1) = regsAt (refX D) S k := by
                      rw [HRG.out]; unfold stepR; rw [if_neg (show ¬ s.k.toNat = 0 by have := HE.out; omega), if_neg (show ¬ s.k.toNat = 1 by have := HE.out; omega)]
                    have hne : ∀ b, Kd W1 b 5 → ¬ some b = (Value.slice ua (outL (refX D) S k).length uc).ownBlock := fun b hb e => HU2.out.vz.block_ne hb (by decide) b e.symm rfl
                    have hne2 : ¬ some gb = (Value.slice ua (outL (refX D) S k).length uc).ownBlock := fun e => HU2.out.vz.block_ne HM2.out.gk (by decide) _ e.symm rfl
                    refine ⟨k + 1, fun j => if j < (outL (refX D) S k).length then γ j else wr.heap.size + 1, rfl, by omega, by go_num, ?_, fun _ => ?_, ?_, ?_⟩
                    · exact Below.upd (HB3.out.trans (HB4.out.mono (by omega))) HU4.out (fun b e => (hlt4 b e).1) (by omega)
                    · rw [eR]
                      exact (HM2.out.later' HB4.out).upd2 HU4.out (fun i hi => hne _ (HM2.out.kd i hi)) hne2
                    · rw [eL]
                      exact HU2.out.next (by decide) HB4.out (by have := HW1.out; omega) (by omega) HR4.out HK4.out HV4.out HU4.out
                    · rw [eL]
                      intro j hj r hr
                      rw [List.length_append, List.length_singleton] at hj
                      by_cases e : j < (outL (refX D) S k).length
                      · simp only [if_pos e]; exact HSP.out j e r hr
                      · simp only [if_neg e]
                        have := (HM2.out.kd r hr).lt; have := HW1.out; omega
              · obtain rfl : n = k := by omega
                clear hb hmx hsep hue hub hou
                go_wp2_with fail
                go_ret2
                exact ⟨.inl ⟨HQ.out, HL.out, _, γ, rfl, HNr.out ▸ HU.out.base_le HBw.out.size⟩, HBw2.out⟩
theorem refRun_any (a a' a2 : Option Addr) (b b' b2 o o' o2 n m c c' c2 : Nat) (S : Nat → Stp) (D : Nat → Sl) (gone : Nat → Bool) (regs : Int) (w : World) (h : Stps w a b o n c fun i => rc (S i)) (hD : Rws w a' b' o' m c' D) (hsz : ∀ i, i < m → (D i).n ≤ 100000)
    (ha2 : 0 < m → a2 = some ⟨b2, o2, none⟩) (hg : Rd w b2 o2 m (fun i => .bool (gone i))) (hc2 : m ≤ c2) :
    Calls Tryd.prog 19 #[.agg #[I regs, .slice a n c], .slice a' m c', .slice a2 m c2] w (RefRunIs w regs n S m D gone) :=
  refRun_anyN a a' a2 b b' b2 o o' o2 n m c c' c2 S D gone regs w h hD.n hsz ha2 hg hc2
end Go.Proofs.YthaamnjpjkkolabDoor
