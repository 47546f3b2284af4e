import Derived.Test.YtgelingkifafeaaGreatDoorBu47
/- The reference's Rank: the walk. -/
namespace Go.Proofs.YtgelingkifafeaaGreatDoor
open Go.RowKit Go.Proofs Lin
set_option maxRecDepth 100000
set_option linter.unusedVariables false

set_option maxHeartbeats 400000 in
theorem refRank_many (a : Option Addr) (n c : Nat) (S : Nat → Sl) (w : World) (hn : 64 < n) (hn' : n ≤ 1099511627776) :
    Calls Tryz.prog 25 #[.slice a n c] w fun e w' => e = .returned (I (refRankV n S)) ∧ Below w.heap.size w w' := by
  have hf := Lib.hid (refRankV_rows (S := S) hn)
  go_enter Tryz.func25, Tryz.ntmps25
  go_wp2
  go_ret
  exact ⟨ret_int hf.out.symm, Below.refl _ _⟩

set_option maxHeartbeats 400000 in
theorem refRank_nil (a : Option Addr) (c : Nat) (S : Nat → Sl) (w : World) :
    Calls Tryz.prog 25 #[.slice a 0 c] w fun e w' => e = .returned (I (refRankV 0 S)) ∧ Below w.heap.size w w' := by
  have hf := Lib.hid (show refRankV 0 S = 0 from rfl)
  go_enter Tryz.func25, Tryz.ntmps25
  go_wp2
  go_rounds 1
  go_rounds 1
  go_rounds 1
  go_ret
  exact ⟨ret_int hf.out.symm, Below.refl _ _⟩

def Wide1 (S : Nat → Sl) (k : Nat) : Prop := wid S k ≤ 64
theorem wide1_next {S : Nat → Sl} {k : Nat} (h : Wide1 S k) (h' : (S k).n ≤ 64) : Wide1 S (k + 1) := by
  unfold Wide1 at *; show Nat.max _ _ ≤ 64; exact Nat.max_le.2 ⟨h, h'⟩

set_option maxHeartbeats 2000000 in
theorem refRank_some (a : Option Addr) (b o n c : Nat) (S : Nat → Sl) (w : World) (ha : 0 < n → a = some ⟨b, o, none⟩)
    (hout : Rd w b o n (fun i => (S i).v)) (hok : ∀ i, i < n → (S i).ok w) (hn0 : 0 < n) (hn : n ≤ 64) :
    Calls Tryz.prog 25 #[.slice a n c] w fun e w' => e = .returned (I (refRankV n S)) ∧ Below w.heap.size w w' := by
  obtain rfl := ha hn0
  have HO := Lib.hid hout
  have HK := Lib.hid hok
  clear hout hok ha
  go_enter Tryz.func25, Tryz.ntmps25
  go_wp2
  go_loopg [3, 4] n (fun g m i wr => ∃ k : Nat, g = n - k ∧ k ≤ n ∧ i = I k ∧ m = I (wid S k) ∧ Wide1 S k ∧ w = wr)
  case atStart => exact ⟨0, rfl, by omega, rfl, rfl, by simp [Wide1, wid], rfl⟩
  case round =>
    obtain ⟨k, rfl, hk, rfl, rfl, hw1, rfl⟩ := hrel
    have HW := Lib.hid hw1
    clear hw1
    by_cases hlt : k < n
    · have c1 : w.cell? ⟨b, o + k, none⟩ = some (.slice (S k).a (S k).n (S k).c) := HO.out k hlt
      by_cases hbig : 64 < (S k).n
      · have hf := Lib.hid (refRankV_wide hlt hbig)
        go_wp2
        go_ret
        exact ⟨ret_int hf.out.symm, Below.refl _ _⟩
      · have hw := Lib.hid (show wid S (k + 1) = Nat.max (wid S k) (S k).n from rfl)
        have hnx := Lib.hid (wide1_next HW.out (by omega))
        generalize wid S k = t at *
        by_cases hgt : t < (S k).n
        · go_wp2
          go_roundg (n - (k + 1))
          case measure => omega
          case rel => exact ⟨k + 1, rfl, by omega, by go_num, by rw [hw.out]; show I _ = I ((max t (S k).n : Nat) : Int); rw [Nat.max_eq_right (by omega)], hnx.out, rfl⟩
        · go_wp2
          go_roundg (n - (k + 1))
          case measure => omega
          case rel => exact ⟨k + 1, rfl, by omega, by go_num, by rw [hw.out]; show I _ = I ((max t (S k).n : Nat) : Int); rw [Nat.max_eq_left (by omega)], hnx.out, rfl⟩
    · obtain rfl : k = n := by omega
      have hW : wid S k ≤ 64 := HW.out
      have hfin := Lib.hid (refRankV_ok hn hW)
      have hLw := Lib.hid (fun i (hi : i < k) => wid_le S hi)
      generalize wid S k = W at *
      have hmb := make_bytes (W : Int) (by omega) (by omega)
      simp only [Int.toNat_natCast] at hmb
      go_wp2
      go_loopg [5, 6] k (fun g v i w2 => ∃ (m : Nat) (β : Nat → Nat), g = k - m ∧ m ≤ k ∧ i = I m ∧ Below w.heap.size w w2 ∧ Vc w2 w.heap.size 49 v m (fun j => .slice (some ⟨β j, 0, none⟩) W W) ∧ Pads w2 w.heap.size m W S β)
      case atStart => exact ⟨0, fun _ => 0, rfl, by omega, rfl, Below.refl _ _, Vc.nil _ _ _ _, ⟨fun j hj => absurd hj (by omega), fun j hj => absurd hj (by omega), fun j hj => absurd hj (by omega), fun i j _ hj => absurd hj (by omega)⟩⟩
      case round =>
        obtain ⟨m, β, rfl, hm, rfl, hb, hv, hp⟩ := hrel
        have hsz : w.heap.size ≤ wr.heap.size := hb.size
        have HB := Lib.hid hb
        have HV := Lib.hid hv
        have HP := Lib.hid hp
        clear hb hv hp
        by_cases hmk : m < k
        · have c1 : ∀ ob, (wr.alloc ob).cell? ⟨b, o + m, none⟩ = some (.slice (S m).a (S m).n (S m).c) := fun ob => ((HO.out.later HB.out).alloc ob) m hmk
          have hok := Lib.hid (HK.out m hmk)
          have hL := hLw.out m hmk
          go_wp2_with (first | (refine wpList_copy_fn rfl (.tmp 53) (.tmp 57) 49 49 rfl 5 Tryz.underlying49 sizeU8 _ _ _ _ _ _ rfl rfl (S m).n wr.heap.size 0 W (S m).b (S m).o (fun _ => .int .u8 0) (bs (S m).x) (by show (S m).n = min (S m).n W; omega) hL (Row.new _ _ _ _) ((hok.out.rd.later HB.out).alloc _) (fun _ => rfl) hok.out.addr (fun _ _ => rfl) ?_; intro w2 hu2 hz2 hk2 hr2; have hsz2 : w.heap.size ≤ w2.heap.size := (by rw [hz2, Deep.nblk_alloc]; omega); have HU2 := Lib.hid hu2; have HK2 := Lib.hid (hk2 _ 5 (Kd.new wr _ _)); have HR2 := Lib.hid (hr2.congr (g := bs (padX (S m))) (fun i _ => by by_cases e : i < (S m).n <;> simp [bs, B, padX, e])); have HV2 := Lib.hid ((HV.out.alloc (.cells (madeCells #[.int .u8 0] W) 5)).kept hu2 (fun t ht e => by have := (HV.out.lt t ht).2; omega)); clear hu2 hz2 hk2 hr2) | (refine wpList_append_one rfl (.tmp 59) (.tmp 61) 74 rfl w.heap.size 49 (.slice none 0 0) 24 Tryz.underlying74 infoBs rfl _ m _ rfl HV2.out (.slice (some ⟨wr.heap.size, 0, none⟩) W W) _ rfl rfl (by omega) (by omega) hsz2 ?_; intro v3 w3 hv3 hu3; have HV3 := Lib.hid hv3; have HU3 := Lib.hid hu3; clear hv3 hu3))
          go_roundg (k - (m + 1))
          case measure => omega
          case rel =>
            refine ⟨m + 1, fun j => if j < m then β j else wr.heap.size, rfl, by omega, by go_num, ?_, HV3.out.congr fun j hj => ?_, ?_⟩
            · exact Below.upd (Below.upd (HB.out.alloc hsz _) HU2.out (fun t e => by omega) (by rw [Deep.nblk_alloc]; omega)) HU3.out (fun t ht => (HV2.out.lt t ht.symm).1) hsz2
            · by_cases e : j < m
              · simp [e]
              · obtain rfl : j = m := by omega
                simp
            · exact HP.out.next hsz HU2.out HR2.out HK2.out HU3.out fun t ht b hb => HV2.out.block_ne hb (by decide) t ht
        · obtain rfl : m = k := by omega
          obtain ⟨va, vb, vc, rfl, hva, hvr, hvc, hvk, _⟩ := HV.out.shape
          obtain rfl := hva hn0
          have H0 := Lib.hid (show OwnMx w wr vb m W β (fun i => padX (S i)) from ⟨HB.out, ⟨hvr, HP.out.row, HP.out.kd, fun i j hi hj e => by
            rcases Nat.lt_trichotomy i j with h | h | h
            · have := HP.out.up i j h hj; omega
            · exact h
            · have := HP.out.up j i h hi; omega, (hvk hn0).2⟩, (hvk hn0).1, HP.out.own⟩)
          have hfin2 := Lib.hid hfin.out
          clear hvr hvk HV HP HB hfin
          go_wp2
          go_loopg [8, 9] W (fun g rk i wr => ∃ (c : Nat) (β : Nat → Nat), g = W - c ∧ c ≤ W ∧ i = I c ∧ rk = I ((refReduce m (fun i => padX (S i)) c).2 : Nat) ∧ OwnMx w wr vb m W β (refReduce m (fun i => padX (S i)) c).1)
          case atStart => exact ⟨0, β, rfl, by omega, rfl, rfl, H0.out⟩
          case round =>
            obtain ⟨c, β, rfl, hc, rfl, rfl, hR⟩ := hrel
            have HR := Lib.hid hR
            clear hR H0
            have hred := (refReduced m (fun i => padX (S i)) c).ech
            have hstep := Lib.hid (show refReduce m (fun i => padX (S i)) (c + 1) = refStep m c (refReduce m (fun i => padX (S i)) c) from rfl)
            generalize hs : refReduce m (fun i => padX (S i)) c = s at *
            have HS0 := Lib.hid hs
            clear hs
            obtain ⟨R, p⟩ := s
            obtain ⟨piv, hpl, hech⟩ := hred
            have hple : p ≤ m := by have := hech.le; simp only at hpl; omega
            have hz := Lib.hid (fun i (h1 : p ≤ i) (h2 : i < m) j (h3 : j < c) => hech.rest i (by simp only at hpl; omega) h2 j h3)
            simp only at hz
            clear hech hpl
            by_cases hcW : c < W
            · go_wp2
              go_loopg [10, 11] (m - p) (fun g at_ i w2 => ∃ x : Nat, g = m - x ∧ p ≤ x ∧ x ≤ m ∧ i = I x ∧ at_ = I (atV (lastFrom (fun i => R i c != 0) p (x - p))) ∧ wr = w2)
              case atStart => exact ⟨p, rfl, by omega, hple, rfl, by rw [Nat.sub_self]; rfl, rfl⟩
              case round =>
                obtain ⟨x, rfl, hx1, hx2, rfl, rfl, rfl⟩ := hrel
                have hnx := Lib.hid (lastFrom_next (q := fun i => R i c != 0) hx1)
                generalize hL : lastFrom (fun i => R i c != 0) p (x - p) = L at *
                have HL := Lib.hid hL
                clear hL
                by_cases hxm : x < m
                · have c1 : wr.cell? ⟨vb, x, none⟩ = some (.slice (some ⟨β x, 0, none⟩) W W) := by have := HR.out.mx.outer.cell x hxm; simpa using this
                  have c2 : wr.cell? ⟨β x, c, none⟩ = some (B (R x c)) := by have := (HR.out.mx.rows x hxm).cell c hcW; simpa using this
                  by_cases hzero : R x c = 0
                  · have ez : ((R x c).toNat : Int) = 0 := by rw [hzero]; rfl
                    have hnx2 := Lib.hid (hnx.out.trans (if_neg (by simp [hzero])))
                    clear hzero hnx
                    go_wp2
                    go_roundg (m - (x + 1))
                    case measure => omega
                    case rel => exact ⟨x + 1, rfl, by omega, by omega, by go_num, by rw [hnx2.out], rfl⟩
                  · have ez : ((R x c).toNat : Int) ≠ 0 := fun e => hzero (UInt8.toNat.inj (by simpa using e))
                    have hnx2 := Lib.hid (hnx.out.trans (if_pos (by simpa using hzero)))
                    clear hzero hnx
                    go_wp2
                    go_roundg (m - (x + 1))
                    case measure => omega
                    case rel => exact ⟨x + 1, rfl, by omega, by omega, by go_num, by rw [hnx2.out]; rfl, rfl⟩
                · obtain rfl : x = m := by omega
                  cases L with
                  | none =>
                    have ea : atV none = -1 := rfl
                    have HS := Lib.hid (hstep.out.trans (refStep_none HL.out))
                    clear hstep HL hnx
                    go_wp2
                    go_roundg (W - (c + 1))
                    case measure => omega
                    case rel => exact ⟨c + 1, β, rfl, by omega, by go_num, by rw [HS.out], by rw [HS.out]; exact HR.out⟩
                  | some y =>
                    have ea : atV (some y) = (y : Int) := rfl
                    obtain ⟨hy1, hy2, hy3⟩ := lastFrom_some HL.out
                    have hym : y < x := by omega
                    have hpx : p < x := by omega
                    have HS := Lib.hid (hstep.out.trans (refStep_some HL.out))
                    have hyc := Lib.hid (show R y c ≠ 0 by simpa using hy3)
                    clear hstep HL hnx hy3 hy2
                    have c1 : wr.cell? ⟨vb, y, none⟩ = some (.slice (some ⟨β y, 0, none⟩) W W) := by have := HR.out.mx.outer.cell y hym; simpa using this
                    have c3 : wr.cell? ⟨vb, p, none⟩ = some (.slice (some ⟨β p, 0, none⟩) W W) := by have := HR.out.mx.outer.cell p hpx; simpa using this
                    have f1 : wr.frozen? ⟨vb, y, none⟩ = false := by have := HR.out.mx.outer.free y hym; simpa using this
                    have f3 : wr.frozen? ⟨vb, p, none⟩ = false := by have := HR.out.mx.outer.free p hpx; simpa using this
                    obtain ⟨x1, hx1⟩ := cell?_setCell_some (w := wr) (p := ⟨vb, y, none⟩) (x := .slice (some ⟨β p, 0, none⟩) W W) (q := ⟨vb, p, none⟩) (v := .slice (some ⟨β p, 0, none⟩) W W) c3
                    have H3 := Lib.hid (HR.out.swapped hym hpx)
                    have c4 := (H3.out.mx.rows p hpx).cell c hcW
                    simp only [bs, swapB_p, swap_p, Nat.zero_add] at c4
                    go_wp2_with (go_at_call 42; refine (refInv_any _ _).mono ?_; rintro e w4 ⟨rfl, rfl⟩)
                    have Eβ := Lib.hid (swapB_p β y p)
                    have hp0 := Lib.hid (show ∀ j, j < c → swap R y p p j = 0 from fun j hj => by rw [swap_p]; exact hz.out y hy1 hym j hj)
                    obtain ⟨w3, hw3⟩ : ∃ w3, w3 = ((wr.setCell ⟨vb, y, none⟩ (.slice (some ⟨β p, 0, none⟩) W W)).setCell ⟨vb, p, none⟩ (.slice (some ⟨β y, 0, none⟩) W W)) := ⟨_, rfl⟩
                    rw [← hw3] at H3
                    rw [← hw3]
                    clear hw3 c1 c3 c4 f1 f3 hx1 HR hz
                    generalize swapB β y p = β1 at *
                    generalize swap R y p = M1 at *
                    generalize hinv : Gf.inv (R y c) = iv at *
                    clear hinv hyc
                    go_loopg [14] (x - (p + 1)) (fun g i wr => ∃ t : Nat, g = x - t ∧ p + 1 ≤ t ∧ t ≤ x ∧ i = I t ∧ OwnMx w wr vb x W β1 (below M1 t p (fun r => Gf.mul (M1 r c) iv)))
                    case atStart => exact ⟨p + 1, rfl, by omega, by omega, by go_num, by rw [below_start]; exact H3.out⟩
                    case round =>
                      obtain ⟨t, rfl, ht1, ht2, rfl, hM⟩ := hrel
                      have HM := Lib.hid hM
                      clear hM H3
                      by_cases htx : t < x
                      · have hpt : p ≠ t := by omega
                        have c1 : wr.cell? ⟨vb, t, none⟩ = some (.slice (some ⟨β1 t, 0, none⟩) W W) := by have := HM.out.mx.outer.cell t htx; simpa using this
                        have c2 := (HM.out.mx.rows t htx).cell c hcW
                        simp only [bs, below_at, Nat.zero_add] at c2
                        have HN1 := Lib.hid (below_at M1 p t (fun r => Gf.mul (M1 r c) iv))
                        have HN2 := Lib.hid (below_p M1 p t (fun r => Gf.mul (M1 r c) iv))
                        have HD := Lib.hid (fun (f : UInt8) (e : f = Gf.mul (M1 t c) iv) => part6_done (M := M1) (W := W) (k := fun r => Gf.mul (M1 r c) iv) (r := t) (by omega) hp0.out)
                        have HZ := Lib.hid (fun (e : Gf.mul (M1 t c) iv = 0) => part6_none (M := M1) (p := p) (k := fun r => Gf.mul (M1 r c) iv) (r := t) e)
                        generalize hf : Gf.mul (M1 t c) iv = f at *
                        by_cases hf0 : f = 0
                        · have ef : (f.toNat : Int) = 0 := by rw [hf0]; rfl
                          have HF := Lib.hid hf
                          have HZ2 := Lib.hid (HZ.out hf0)
                          clear hf hf0 HD HZ
                          go_wp2_with (go_at_call 43; refine (refMul_any _ _ _).mono ?_; rintro e w4 ⟨rfl, rfl⟩; rw [HF.out])
                          go_rounds 1
                          go_roundg (x - (t + 1))
                          case measure => omega
                          case rel => exact ⟨t + 1, rfl, by omega, by omega, by go_num, by rw [HZ2.out]; exact HM.out⟩
                        · have ef : (f.toNat : Int) ≠ 0 := fun e => hf0 (UInt8.toNat.inj (by simpa using e))
                          have HF := Lib.hid hf
                          have HD2 := Lib.hid (HD.out f rfl)
                          clear hf hf0 HD HZ
                          generalize below M1 t p (fun r => Gf.mul (M1 r c) iv) = N at *
                          go_wp2_with (go_at_call 43; refine (refMul_any _ _ _).mono ?_; rintro e w4 ⟨rfl, rfl⟩; rw [HF.out])
                          go_loopg [16] (W - c) (fun g i wr => ∃ j : Nat, g = W - j ∧ c ≤ j ∧ j ≤ W ∧ i = I j ∧ OwnMx w wr vb x W β1 (part6 N t p c j f))
                          case atStart => exact ⟨c, rfl, by omega, by omega, rfl, by rw [part6_start]; exact HM.out⟩
                          case round =>
                            obtain ⟨j, rfl, hj1, hj2, rfl, h6⟩ := hrel
                            have H6 := Lib.hid h6
                            clear h6 HM
                            have hd0 : (((f.toNat : Int)) != 0) = true := by rw [bne_iff_ne]; exact ef
                            by_cases hjW : j < W
                            · have d1 : wr.cell? ⟨vb, t, none⟩ = some (.slice (some ⟨β1 t, 0, none⟩) W W) := by have := H6.out.mx.outer.cell t htx; simpa using this
                              have d2 := (H6.out.mx.rows p hpx).cell j hjW
                              simp only [bs, part6_p N f hpt, HN2.out, Nat.zero_add, Eβ.out] at d2
                              have d3 := (H6.out.mx.rows t htx).cell j hjW
                              simp only [bs, part6_r, HN1.out, Nat.zero_add] at d3
                              have d4 := (H6.out.mx.rows t htx).free j hjW
                              rw [Nat.zero_add] at d4
                              have HX := Lib.hid (((H6.out.drewN 1).set htx hjW (M1 t j ^^^ Gf.mul f (M1 p j)) (xor8 _ _)).congr (N := part6 N t p c (j + 1) f) fun i _ x _ => by rw [← part6_next N f hj1, HN1.out, HN2.out])
                              go_wp2_with (go_at_call 43; refine (refMul_any _ _ _).mono ?_; rintro e w4 ⟨rfl, rfl⟩)
                              go_still_tail 15, mixed
                              change wpList _ _ _ _ _ (wr.drewN 1)
                              go_wp2
                              go_roundg (W - (j + 1))
                              case measure => omega
                              case rel => exact ⟨j + 1, rfl, by omega, by omega, by go_num, HX.out⟩
                            · obtain rfl : j = W := by omega
                              go_wp2
                              go_roundg (x - (t + 1))
                              case measure => omega
                              case rel => exact ⟨t + 1, rfl, by omega, by omega, by go_num, H6.out.congr fun i _ x hx => HD2.out i x hx⟩
                      · obtain rfl : t = x := by omega
                        go_wp2
                        go_roundg (W - (c + 1))
                        case measure => omega
                        case rel => exact ⟨c + 1, β1, rfl, by omega, by go_num, by rw [HS.out]; go_num, by rw [HS.out]; exact HM.out⟩
            · go_wp2
              go_ret
              obtain rfl : c = W := by omega
              exact ⟨ret_int (by rw [hfin2.out, HS0.out]), HR.out.below⟩

theorem refRank_any (a : Option Addr) (b o n c : Nat) (S : Nat → Sl) (w : World) (ha : 0 < n → a = some ⟨b, o, none⟩)
    (hout : Rd w b o n (fun i => (S i).v)) (hok : ∀ i, i < n → (S i).ok w) (hn : n ≤ 1099511627776) :
    Calls Tryz.prog 25 #[.slice a n c] w fun e w' => e = .returned (I (rankV n S)) ∧ Below w.heap.size w w' := by
  rw [← refRank_eq]
  by_cases h : n ≤ 64
  · by_cases h0 : n = 0
    · subst h0; exact refRank_nil a c S w
    · exact refRank_some a b o n c S w ha hout hok (by omega) h
  · exact refRank_many a n c S w (by omega) hn
end Go.Proofs.YtgelingkifafeaaGreatDoor
