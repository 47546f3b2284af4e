import Derived.Test.YthaamnjpjkkolabDoorSumP
import Derived.Test.YthaamnjpjkkolabDoorSEnc
import Derived.Test.YthaamnjpjkkolabDoorTell
import Derived.Test.YthaamnjpjkkolabDoorSets
/- The law Sums: its walk. -/
namespace Go.Proofs.YthaamnjpjkkolabDoor
open Go.RowKit Go.Proofs Lin
set_option maxRecDepth 100000
set_option linter.unusedVariables false

/-- Both lists of data up to k have rows of W bytes. -/
def LenTo (k W : Nat) (S T : Nat → Sl) : Prop := ∀ i, i < k → (S i).n = W ∧ (T i).n = W
theorem LenTo.next {k W : Nat} {S T : Nat → Sl} (h : LenTo k W S T) (h1 : (S k).n = W) (h2 : (T k).n = W) : LenTo (k + 1) W S T := fun i hi => by
  by_cases e : i = k
  · subst e; exact ⟨h1, h2⟩
  · exact h i (by omega)

/-- The sums. -/
def sumM (S T : Nat → Sl) : Mat := fun i t => (S i).x t ^^^ (T i).x t

/-- A matrix that lies in memory, to be read. -/
structure MrV (w : World) (b : Nat) (β : Nat → Nat) (k W : Nat) (M : Mat) : Prop where
  out : Rd w b 0 k (fun j => .slice (some ⟨β j, 0, none⟩) W W)
  row : ∀ j, j < k → Rd w (β j) 0 W (bs (M j))
theorem Mr.view {w wr : World} {v : Value} {k W : Nat} {M : Mat} {β : Nat → Nat} (h : Mr w wr v k W M β) : ∃ a b c, v = .slice a k c ∧ (0 < k → a = some ⟨b, 0, none⟩) ∧ MrV wr b β k W M := by
  obtain ⟨a, b, c, h1, h2, h3, _⟩ := h.sh
  exact ⟨a, b, c, h1, h2, h3, fun j hj => (h.row j hj).rd⟩
theorem MrV.later {w w' : World} {b : Nat} {β : Nat → Nat} {k W : Nat} {M : Mat} (h : MrV w b β k W M) (hb : Below w.heap.size w w') : MrV w' b β k W M :=
  ⟨h.out.later hb, fun j hj => (h.row j hj).later hb⟩
theorem MrV.drewN {w : World} {b : Nat} {β : Nat → Nat} {k W : Nat} {M : Mat} (h : MrV w b β k W M) (q : Nat) : MrV (w.drewN q) b β k W M := ⟨h.out.drewN q, fun j hj => (h.row j hj).drewN q⟩
theorem MrV.sl {w : World} {b : Nat} {β : Nat → Nat} {k W : Nat} {M : Mat} (h : MrV w b β k W M) {i : Nat} (hi : i < k) : w.cell? ⟨b, i, none⟩ = some (.slice (some ⟨β i, 0, none⟩) W W) := by
  have := h.out i hi; rwa [Nat.zero_add] at this
theorem MrV.at {w : World} {b : Nat} {β : Nat → Nat} {k W : Nat} {M : Mat} (h : MrV w b β k W M) {i j : Nat} (hi : i < k) (hj : j < W) : w.cell? ⟨β i, j, none⟩ = some (B (M i j)) := by
  have := h.row i hi j hj; rwa [Nat.zero_add] at this

set_option maxHeartbeats 8000000 in
open Classical in
theorem sums_walk (D L G : Int) (a a' : Option Addr) (b b' o o' n n' c c' : Nat) (S T : Nat → Sl) (w : World) (h : Rws w a b o n c S) (h' : Rws w a' b' o' n' c' T) :
    Calls Tryd.prog 3 #[PV D L G, .slice a n c, .slice a' n' c'] w (LawTrue w) := by
  have HS := Lib.hid h
  have HT := Lib.hid h'
  have hm1 := h.max; have hc1 := h.cap; have hm2 := h'.max; have hc2 := h'.cap
  clear h h'
  have HB0 := Lib.hid ((Below.refl w.heap.size w).alloc (Nat.le_refl _) (.cells #[I D, I L, I G] 23))
  have HP0 := Lib.hid (pcI_new w D L G 23)
  by_cases hR : RightI D L G
  case neg =>
    have HN := Lib.hid (show decide (RightI D L G) = false from decide_eq_false hR)
    clear hR
    go_enter Tryd.func3, Tryd.ntmps3
    go_wp2_with (first | (go_at_call 8; refine (theirs_any D L G _).mono ?_; rintro e w1 ⟨rfl, hb⟩; have HB1 := Lib.hid ((HB0.out.trans (hb.mono HB0.out.size)).alloc (HB0.out.trans (hb.mono HB0.out.size)).size (.cells #[I D, I L, I G] 25)); clear hb) | (go_at_call 9; refine (right_any D L G _).mono ?_; rintro e w2 ⟨rfl, hb⟩; rw [HN.out]; have HB2 := Lib.hid (HB1.out.trans (hb.mono HB1.out.size)); clear hb))
    go_ret
    exact ⟨rfl, HB2.out⟩
  have HY := Lib.hid (show decide (RightI D L G) = true from decide_eq_true hR)
  obtain ⟨D, L, G, rfl, rfl, rfl, hR⟩ := hR
  have h1 := hR.d1; have h2 := hR.d2; have h3 := hR.l1; have h4 := hR.l2; have h7 := hR.sum
  have HD := Lib.hid hR.div
  have HE := Lib.hid (fun W a b o c S w h1 h2 h3 h4 h5 h6 => sEncode_yes D L G W hR a b o c S w h1 h2 h3 h4 h5 h6)
  clear hR
  have HPr := Lib.hid (fun w1 => pcI_new w1 D L G 25)
  go_enter Tryd.func3, Tryd.ntmps3
  go_upto_region 3 with (first | (go_at_call 8; refine (theirs_any D L G _).mono ?_; rintro e w1 ⟨rfl, hb⟩; have HB1 := Lib.hid ((HB0.out.trans (hb.mono HB0.out.size)).alloc (HB0.out.trans (hb.mono HB0.out.size)).size (.cells #[I D, I L, I G] 25)); have HP1 := Lib.hid ((HP0.out.later hb).alloc (.cells #[I D, I L, I G] 25)); have HQ1 := Lib.hid (pcI_new w1 D L G 25); have hq1 := hb.size; clear hb) | (go_at_call 9; refine (right_any D L G _).mono ?_; rintro e w2 ⟨rfl, hb⟩; rw [HY.out]; have HB2 := Lib.hid (HB1.out.trans (hb.mono HB1.out.size)); have HP2 := Lib.hid (HP1.out.later hb); have HQ2 := Lib.hid (HQ1.out.later hb); clear hb))
  have p0 : w2.cell? ⟨w.heap.size, 0, none⟩ = some (I D) := HP2.out 0 (by omega)
  clear HB1 HP1 HQ1 HB0 HP0
  by_cases hnD : n = D
  case neg =>
    have hnn : ((n : Int) != (D : Int)) = true := by simp; omega
    go_wp2_with fail
    go_ret
    exact ⟨rfl, HB2.out⟩
  by_cases hnD' : n' = D
  case neg =>
    have hnn : ((n : Int) != (D : Int)) = false := by simp; omega
    have hnn' : ((n' : Int) != (D : Int)) = true := by simp; omega
    go_wp2_with fail
    go_ret
    exact ⟨rfl, HB2.out⟩
  subst hnD
  subst hnD'
  have hnn : ((n' : Int) != (n' : Int)) = false := by simp
  have HS2 := Lib.hid (HS.out.later HB2.out)
  have HT2 := Lib.hid (HT.out.later HB2.out)
  obtain rfl := HS.out.addr (by omega)
  obtain rfl := HT.out.addr (by omega)
  have d0 := HS2.out.out 0 (by omega)
  rw [Nat.add_zero] at d0
  have hm0 : (S 0).n ≤ 140737488355328 := Nat.le_trans (HS.out.ok 0 (by omega)).cap (HS.out.ok 0 (by omega)).max
  obtain ⟨W, hW⟩ : ∃ W, W = (S 0).n := ⟨_, rfl⟩
  rw [← hW] at hm0
  simp only [Sl.v] at d0
  rw [← hW] at d0
  have HW := Lib.hid hW
  clear hW
  by_cases hW2 : 200 < W
  · go_wp2_with fail
    go_ret
    exact ⟨rfl, HB2.out⟩
  go_wp2_with fail
  have hmb := make_bytes (W : Int) (by omega) (by omega)
  simp only [Int.toNat_natCast] at hmb
  clear d0 p0
  go_loopg [10, 11] n' (fun g v i w3 => ∃ (k : Nat) (γ : Nat → Nat), g = n' - k ∧ k ≤ n' ∧ i = I k ∧ Gm w2 w3 v k W (sumM S T) γ ∧ LenTo k W S T)
  case atStart => exact ⟨0, fun _ => 0, rfl, by omega, rfl, Gm.start (Below.refl _ _), fun i hi => absurd hi (by omega)⟩
  case round =>
    obtain ⟨i, γ, rfl, hi, rfl, hg, hlen⟩ := hrel
    have HG := Lib.hid hg
    have HLn := Lib.hid hlen
    have hsz1 : w2.heap.size ≤ wr.heap.size := hg.below.size
    have p0 : wr.cell? ⟨w.heap.size, 0, none⟩ = some (I n') := (HP2.out.later hg.below) 0 (by omega)
    clear hg hlen
    by_cases hlti : i < n'
    · have e1 : wr.cell? ⟨b, o + i, none⟩ = some (.slice (S i).a (S i).n (S i).c) := (HS2.out.out.later HG.out.below) i hlti
      have e2 : wr.cell? ⟨b', o' + i, none⟩ = some (.slice (T i).a (T i).n (T i).c) := (HT2.out.out.later HG.out.below) i hlti
      have hm3 : (S i).n ≤ 140737488355328 := Nat.le_trans (HS.out.ok i hlti).cap (HS.out.ok i hlti).max
      have hm4 : (T i).n ≤ 140737488355328 := Nat.le_trans (HT.out.ok i hlti).cap (HT.out.ok i hlti).max
      by_cases l1 : (S i).n = W
      case neg =>
        have t1 := ntrue' l1
        clear l1
        go_wp2_with fail
        go_ret
        exact ⟨rfl, HB2.out.trans (HG.out.below.mono HB2.out.size)⟩
      by_cases l2 : (T i).n = W
      case neg =>
        have t1 := nfalse' l1
        have t2 := ntrue' l2
        clear l1 l2
        go_wp2_with fail
        go_ret
        exact ⟨rfl, HB2.out.trans (HG.out.below.mono HB2.out.size)⟩
      have HL1 := Lib.hid l1
      have HL2 := Lib.hid l2
      rw [l1] at e1
      rw [l2] at e2
      have hWW : ((W : Int) != (W : Int)) = false := by simp
      clear l1 l2 hm3 hm4
      have HAS := Lib.hid (HS.out.ok i hlti).addr
      have HAT := Lib.hid (HT.out.ok i hlti).addr
      have HRS := Lib.hid (show Rd wr (S i).b (S i).o W (bs (S i).x) from HL1.out ▸ (HS2.out.ok i hlti).rd.later HG.out.below)
      have HRT := Lib.hid (show Rd wr (T i).b (T i).o W (bs (T i).x) from HL2.out ▸ (HT2.out.ok i hlti).rd.later HG.out.below)
      go_wp2_with fail
      obtain ⟨wo, rfl⟩ : ∃ wo, wo = wr := ⟨_, rfl⟩
      have HbS := Lib.hid (HS2.out.out.lt (by omega))
      have HbT := Lib.hid (HT2.out.out.lt (by omega))
      go_loopg [13] W (fun g i' w3 => ∃ m : Nat, g = W - m ∧ m ≤ W ∧ i' = I m ∧ Doing (wo.alloc (.cells (madeCells #[.int .u8 0] W) 5)) w3 wo.heap.size W m (fun _ => 0) (sumM S T i))
      case atStart => exact ⟨0, rfl, by omega, rfl, Doing.start ((Row.new wo (.int .u8 0) W 5).congr fun i _ => by simp [bs, B])⟩
      case round =>
        obtain ⟨m, rfl, hm, rfl, hd⟩ := hrel
        have HDo := Lib.hid hd
        clear hd
        by_cases hlt2 : m < W
        · have f1 : wr.cell? ⟨b, o + i, none⟩ = some (.slice (S i).a W (S i).c) := by
            rw [← e1]; exact World.cell?_of_block (a := ⟨b, o + i, none⟩) ((HDo.out.upd.block _ (by rw [Deep.nblk_alloc]; have := HbS.out; show b < _; omega) (by have := HbS.out; show ¬ b = _; omega)).trans (Deep.blk_alloc_lt _ _ _ (by have := HbS.out; show b < _; omega)))
          have f2 : wr.cell? ⟨b', o' + i, none⟩ = some (.slice (T i).a W (T i).c) := by
            rw [← e2]; exact World.cell?_of_block (a := ⟨b', o' + i, none⟩) ((HDo.out.upd.block _ (by rw [Deep.nblk_alloc]; have := HbT.out; show b' < _; omega) (by have := HbT.out; show ¬ b' = _; omega)).trans (Deep.blk_alloc_lt _ _ _ (by have := HbT.out; show b' < _; omega)))
          have g1 : wr.cell? ⟨(S i).b, (S i).o + m, none⟩ = some (B ((S i).x m)) := ((HRS.out.alloc _).upd HDo.out.upd fun _ => by have := HRS.out.lt (by omega); omega) m hlt2
          have g2 : wr.cell? ⟨(T i).b, (T i).o + m, none⟩ = some (B ((T i).x m)) := ((HRT.out.alloc _).upd HDo.out.upd fun _ => by have := HRT.out.lt (by omega); omega) m hlt2
          have ha1 := HAS.out (by have := HL1.out; omega)
          have ha2 := HAT.out (by have := HL2.out; omega)
          rw [ha1] at f1
          rw [ha2] at f2
          have d1 := HDo.out.cellAt hlt2
          have d2 := HDo.out.freeAt hlt2
          clear ha1 ha2 e1 e2
          go_wp2_with fail
          go_still_tail 18, mixed
          change wpList _ _ _ _ _ (wr.drewN 1)
          go_wp2_with fail
          go_roundg (W - (m + 1))
          case measure => omega
          case rel => exact ⟨m + 1, rfl, by omega, by go_num, (HDo.out.drewN 1).next hlt2 (by unfold sumM; exact xor8 _ _)⟩
        · obtain rfl : W = m := by omega
          have HW3 := Lib.hid (HDo.out.rowTo (fun j h1 h2 => absurd h2 (by omega)))
          have HK := Lib.hid (HDo.out.kd _ _ (Kd.new wo (madeCells #[.int .u8 0] W) 5))
          have HU := Lib.hid HDo.out.upd
          have HV := Lib.hid (HG.out.vcFill HU.out)
          have hsz := HG.out.szFill HU.out
          go_wp2_with (refine wpList_append_one rfl (.tmp 101) (.tmp 103) 24 rfl w2.heap.size 28 (.slice none 0 0) 24 Tryd.underlying24 infoBs rfl _ i _ rfl HV.out (.slice (some ⟨wo.heap.size, 0, none⟩) W W) _ rfl rfl (by omega) (by omega) hsz ?_; intro v3 w3 hv3 hu3; have HV3 := Lib.hid hv3; have HU3 := Lib.hid hu3; clear hv3 hu3)
          go_roundg (n' - (i + 1))
          case measure => omega
          case rel => exact ⟨i + 1, _, rfl, by omega, by go_num, HG.out.next HU.out HW3.out HK.out HV3.out HU3.out, HLn.out.next HL1.out HL2.out⟩
    · obtain rfl : n' = i := by omega
      obtain ⟨va, vb, vc, rfl, hva, hvr, hvc, _, _⟩ := HG.out.vc.shape
      have HVA := Lib.hid hva
      have HVR := Lib.hid hvr.rd
      clear hva hvr
      have HWS := Lib.hid (fun i (hi : i < n') => (HLn.out i hi).1)
      have HWT := Lib.hid (fun i (hi : i < n') => (HLn.out i hi).2)
      have HBr := Lib.hid (HB2.out.trans (HG.out.below.mono HB2.out.size))
      have HSr := Lib.hid (HS.out.later HBr.out)
      have HTr := Lib.hid (HT.out.later HBr.out)
      have HPr' := Lib.hid (HP2.out.later HG.out.below)
      have HQr := Lib.hid (HQ2.out.later HG.out.below)
      have p1 : wr.cell? ⟨w.heap.size, 1, none⟩ = some (I L) := HPr'.out 1 (by omega)
      have p2 : wr.cell? ⟨w.heap.size, 2, none⟩ = some (I G) := HPr'.out 2 (by omega)
      clear hmb HP2 HQ2 HS2 HT2 HLn
      -- the three calls
      go_wp2_with fail
      refine (HE.out W (some ⟨b, o, none⟩) b o c S wr (fun _ => rfl) HSr.out.out HSr.out.ok HSr.out.cap HWS.out (by omega)).mono ?_
      rintro e w3 ⟨vx, α, rfl, hmx⟩
      obtain ⟨xa, xb, xc, rfl, hxa, hxv⟩ := hmx.view
      obtain rfl := hxa (by omega)
      have HX := Lib.hid hxv
      have H3 := Lib.hid hmx.below
      have HT3 := Lib.hid (HTr.out.later hmx.below)
      have a0 : w3.cell? ⟨w.heap.size, 0, none⟩ = some (I n') := (HPr'.out.later hmx.below) 0 (by omega)
      have a1 : w3.cell? ⟨w.heap.size, 1, none⟩ = some (I L) := (HPr'.out.later hmx.below) 1 (by omega)
      have a2 : w3.cell? ⟨w.heap.size, 2, none⟩ = some (I G) := (HPr'.out.later hmx.below) 2 (by omega)
      clear hmx hxv hxa p0 p1 p2
      go_wp2_with fail
      refine (HE.out W (some ⟨b', o', none⟩) b' o' c' T w3 (fun _ => rfl) HT3.out.out HT3.out.ok HT3.out.cap HWT.out (by omega)).mono ?_
      rintro e w4 ⟨vy, δ, rfl, hmy⟩
      obtain ⟨ya, yb, yc, rfl, hya, hyv⟩ := hmy.view
      obtain rfl := hya (by omega)
      have HYm := Lib.hid hyv
      have H4 := Lib.hid (H3.out.trans (hmy.below.mono H3.out.size))
      have HX4 := Lib.hid (HX.out.later hmy.below)
      have b0 : w4.cell? ⟨w.heap.size, 0, none⟩ = some (I n') := (HPr'.out.later H4.out) 0 (by omega)
      have b1 : w4.cell? ⟨w.heap.size, 1, none⟩ = some (I L) := (HPr'.out.later H4.out) 1 (by omega)
      have b2 : w4.cell? ⟨w.heap.size, 2, none⟩ = some (I G) := (HPr'.out.later H4.out) 2 (by omega)
      clear hmy hyv hya a0 a1 a2 HX
      go_wp2_with fail
      refine (HE.out W va vb 0 vc (fun i => Gm.sl W (sumM S T) γ i) w4 HVA.out (HVR.out.later H4.out) (fun i hi => (HG.out.later H4.out).ok (by omega) hi) hvc (fun i hi => rfl) (by omega)).mono ?_
      rintro e w5 ⟨vz, ε, rfl, hmz⟩
      obtain ⟨za, zb, zc, rfl, hza, hzv⟩ := hmz.view
      obtain rfl := hza (by omega)
      have HZ := Lib.hid hzv
      have H5 := Lib.hid (H4.out.trans (hmz.below.mono H4.out.size))
      have HX5 := Lib.hid (HX4.out.later hmz.below)
      have HY5 := Lib.hid (HYm.out.later hmz.below)
      clear hmz hzv hza b0 b1 b2 HX4 HYm hvc
      go_wp2_with fail
      refine (tell_nil _).mono ?_
      rintro e w6 ⟨rfl, hb6⟩
      have H56 := Lib.hid hb6
      clear hb6
      go_wp2_with fail
      refine (tell_nil _).mono ?_
      rintro e w7 ⟨rfl, hb7⟩
      have H57 := Lib.hid (H56.out.trans (hb7.mono H56.out.size))
      clear hb7
      go_wp2_with fail
      refine (tell_nil _).mono ?_
      rintro e w8 ⟨rfl, hb8⟩
      have H58 := Lib.hid (H57.out.trans (hb8.mono H57.out.size))
      have H8 := Lib.hid (H5.out.trans (H58.out.mono H5.out.size))
      have hq8 := HQr.out.later H8.out
      have q0 : w8.cell? ⟨w1.heap.size, 0, none⟩ = some (I n') := hq8 0 (by omega)
      have q1 : w8.cell? ⟨w1.heap.size, 1, none⟩ = some (I L) := hq8 1 (by omega)
      have q2 : w8.cell? ⟨w1.heap.size, 2, none⟩ = some (I G) := hq8 2 (by omega)
      clear hb8 hq8
      go_wp2_with fail
      refine (refShards_any n' L G (by omega) _).mono ?_
      rintro e w9 ⟨rfl, hb9⟩
      have H9 := Lib.hid (H8.out.trans (hb9.mono H8.out.size))
      have H59 := Lib.hid (H58.out.trans (hb9.mono H58.out.size))
      have HX9 := Lib.hid (HX5.out.later H59.out)
      have HY9 := Lib.hid (HY5.out.later H59.out)
      have HZ9 := Lib.hid (HZ.out.later H59.out)
      have HS9 := Lib.hid (HSr.out.later H9.out)
      have HP9 := Lib.hid (HPr'.out.later H9.out)
      have HF := Lib.hid (HBr.out.trans (H9.out.mono HBr.out.size))
      have HNN := Lib.hid (show ((n' : Int) + (L : Int) + (G : Int)) = ((n' + L + G : Nat) : Int) by simp)
      clear hb9 q0 q1 q2 HX5 HY5 HZ HSr HTr HPr' HQr H58 H8 H5 H4 H3 HT3 HBr H9 H59 HVR HG HPr H56 H57
      rw [HNN.out]
      generalize hN : n' + L + G = N at *
      have hN1 : n' + L ≤ N := by omega
      have HN := Lib.hid hN
      clear hN
      have hNN : ((N : Int) != (N : Int)) = false := by simp
      have hWW : ((W : Int) != (W : Int)) = false := by simp
      go_wp2_with fail
      go_loopg [21, 22] N (fun g i v w3 => ∃ m q : Nat, g = N - m ∧ m ≤ N ∧ i = I m ∧ w3 = w9.drewN q)
      case atStart => exact ⟨0, 0, rfl, by omega, rfl, rfl⟩
      case round =>
        obtain ⟨m, q, rfl, hm, rfl, rfl⟩ := hrel
        by_cases hlm : m < N
        · go_wp2_with fail
          go_loopg [22] W (fun g v w3 => ∃ j q : Nat, g = W - j ∧ j ≤ W ∧ v = I j ∧ w3 = w9.drewN q)
          case atStart => exact ⟨0, q, rfl, by omega, rfl, rfl⟩
          case round =>
            obtain ⟨j, q, rfl, hj, rfl, rfl⟩ := hrel
            by_cases hlj : j < W
            · have x1 : w9.cell? ⟨xb, m, none⟩ = some (.slice (some ⟨α m, 0, none⟩) W W) := HX9.out.sl hlm
              have y1 : w9.cell? ⟨yb, m, none⟩ = some (.slice (some ⟨δ m, 0, none⟩) W W) := HY9.out.sl hlm
              have z1 : w9.cell? ⟨zb, m, none⟩ = some (.slice (some ⟨ε m, 0, none⟩) W W) := HZ9.out.sl hlm
              obtain ⟨ex, hex⟩ : ∃ x, x = encM n' L (fun i => (S i).x) m j := ⟨_, rfl⟩
              obtain ⟨ey, hey⟩ : ∃ x, x = encM n' L (fun i => (T i).x) m j := ⟨_, rfl⟩
              obtain ⟨ez, hez⟩ : ∃ x, x = encM n' L (fun i => (Gm.sl W (sumM S T) γ i).x) m j := ⟨_, rfl⟩
              have x2 : w9.cell? ⟨α m, j, none⟩ = some (B ex) := by rw [hex]; exact HX9.out.at hlm hlj
              have y2 : w9.cell? ⟨δ m, j, none⟩ = some (B ey) := by rw [hey]; exact HY9.out.at hlm hlj
              have z2 : w9.cell? ⟨ε m, j, none⟩ = some (B ez) := by rw [hez]; exact HZ9.out.at hlm hlj
              have hzz : ez = ex ^^^ ey := by rw [hex, hey, hez]; exact encM_add (fun q hq t ht => rfl) m hlj
              have hbx : bits .xor .u8 (ex.toNat : Int) (ey.toNat : Int) = (ez.toNat : Int) := by rw [hzz]; exact xor8 _ _
              have hz0 : ((ez.toNat : Int) != (ez.toNat : Int)) = false := by simp
              have HEX := Lib.hid hex
              clear hex hey hez hzz
              have p0 : w9.cell? ⟨w.heap.size, 0, none⟩ = some (I n') := HP9.out 0 (by omega)
              by_cases hmd : m < n'
              · have s1 : w9.cell? ⟨b, o + m, none⟩ = some (.slice (S m).a (S m).n (S m).c) := HS9.out.out m hmd
                have s2 : w9.cell? ⟨(S m).b, (S m).o + j, none⟩ = some (B ((S m).x j)) := (HS9.out.ok m hmd).rd j (by rw [HWS.out m hmd]; exact hlj)
                have s3 := (HS9.out.ok m hmd).addr (by rw [HWS.out m hmd]; omega)
                rw [s3, HWS.out m hmd] at s1
                rw [show (S m).x j = ex from (HEX.out.trans (encM_data hmd j)).symm] at s2
                have hx0 : ((ex.toNat : Int) != (ex.toNat : Int)) = false := by simp
                clear s3
                go_wp2_with fail
                refine wp_region_quiet_lit (by kernel_rfl) (by kernel_rfl) ?_
                dsimp only [List.append]
                repeat (go_big_quiet_step (fail))
                refine wpQuiet_nil ?_
                rintro _ ⟨nq, rfl⟩
                go_wp2_with fail
                go_roundg (W - (j + 1))
                case measure => omega
                case rel => exact ⟨j + 1, _, rfl, by omega, by go_num, rfl⟩
              · have hmd' : decide ((m : Int) < (n' : Int)) = false := by simp; omega
                go_wp2_with fail
                refine wp_region_quiet_lit (by kernel_rfl) (by kernel_rfl) ?_
                dsimp only [List.append]
                repeat (go_big_quiet_step (fail))
                refine wpQuiet_nil ?_
                rintro _ ⟨nq, rfl⟩
                go_wp2_with fail
                go_roundg (W - (j + 1))
                case measure => omega
                case rel => exact ⟨j + 1, _, rfl, by omega, by go_num, rfl⟩
            · obtain rfl : W = j := by omega
              go_wp2_with fail
              go_roundg (N - (m + 1))
              case measure => omega
              case rel => exact ⟨m + 1, q, rfl, by omega, by go_num, rfl⟩
        · obtain rfl : N = m := by omega
          have p0 : w9.cell? ⟨w.heap.size, 0, none⟩ = some (I n') := HP9.out 0 (by omega)
          have p1 : w9.cell? ⟨w.heap.size, 1, none⟩ = some (I L) := HP9.out 1 (by omega)
          have hd0 := HD.out
          obtain ⟨s, hs⟩ : ∃ s, s = n' / L := ⟨_, rfl⟩
          have hs0 : 0 < s := hs ▸ Nat.div_pos (Nat.le_of_dvd (by omega) (Nat.dvd_of_mod_eq_zero hd0)) (by omega)
          have HsD := Lib.hid (show s * L = n' from hs ▸ Nat.div_mul_cancel (Nat.dvd_of_mod_eq_zero hd0))
          have hs12 : s ≤ n' := hs ▸ Nat.div_le_self _ _
          have hq := Lib.hid (show wrap64 ((n' : Int) / (L : Int)) = (s : Int) by
            have : (n' : Int) / (L : Int) = ((n' / L : Nat) : Int) := by simp
            rw [this, ← hs]; exact IntWalk.wrap64_in _ ⟨by omega, by omega⟩)
          have HR0 := Lib.hid (fun g t (hg : g < L) => rest_start (X := fun i => (S i).x) (t := t) hs hd0 (by omega) (by omega) hg)
          clear hd0 hs
          go_wp2_with fail
          rw [hq.out]
          clear p0 p1 HY9 HZ9
          go_loopg [24, 25, 26, 27] L (fun g i v1 v2 v3 w3 => ∃ m : Nat, g = L - m ∧ m ≤ L ∧ i = I m ∧ w3 = w9.drewN q)
          case atStart => exact ⟨0, rfl, by omega, rfl, rfl⟩
          case round =>
            obtain ⟨u, rfl, hu, rfl, rfl⟩ := hrel
            by_cases hlu : u < L
            · obtain ⟨f, hf⟩ : ∃ f, f = u * s := ⟨_, rfl⟩
              have e1 : (u : Int) * (s : Int) = (f : Int) := by rw [hf]; simp
              have e2 : ((u : Int) + 1) * (s : Int) = (f : Int) + (s : Int) := by rw [Int.add_mul, e1]; simp
              have e3 : f + s ≤ n' := by
                have := HsD.out
                have h1 : (u + 1) * s ≤ L * s := Nat.mul_le_mul_right _ (by omega)
                rw [Nat.add_mul] at h1; rw [Nat.mul_comm L s] at h1; omega
              have HRu := Lib.hid (fun t => HR0.out u t hlu)
              rw [← hf] at HRu
              clear hf
              have p1 : w9.cell? ⟨w.heap.size, 1, none⟩ = some (I L) := HP9.out 1 (by omega)
              go_wp2_with fail
              clear p1
              go_loopg [25, 26, 27] W (fun g v v2 v3 w3 => ∃ j : Nat, g = W - j ∧ j ≤ W ∧ v = I j ∧ w3 = w9.drewN q)
              case atStart => exact ⟨0, rfl, by omega, rfl, rfl⟩
              case round =>
                obtain ⟨j, rfl, hj, rfl, rfl⟩ := hrel
                by_cases hlj : j < W
                · have p0 : w9.cell? ⟨w.heap.size, 0, none⟩ = some (I n') := HP9.out 0 (by omega)
                  have x1 : w9.cell? ⟨xb, n' + u, none⟩ = some (.slice (some ⟨α (n' + u), 0, none⟩) W W) := HX9.out.sl (by omega)
                  obtain ⟨r0, hr0⟩ : ∃ r, r = encM n' L (fun i => (S i).x) (n' + u) j := ⟨_, rfl⟩
                  have x2 : w9.cell? ⟨α (n' + u), j, none⟩ = some (B r0) := by rw [hr0]; exact HX9.out.at (by omega) hlj
                  rw [← HRu.out j] at hr0
                  have HR := Lib.hid hr0
                  clear hr0
                  go_wp2_with fail
                  clear x1 x2 p0
                  go_loopg [26, 27] s (fun g v2 v3 w3 => ∃ (z : Nat) (r : UInt8), g = f + s - z ∧ f ≤ z ∧ z ≤ f + s ∧ v3 = I z ∧ v2 = B r ∧ r = rest n' f s (fun i => (S i).x) j z ∧ w3 = w9.drewN q)
                  case atStart => exact ⟨f, r0, by omega, by omega, by omega, by go_num, rfl, HR.out, rfl⟩
                  case round =>
                    obtain ⟨z, r, rfl, hz1, hz2, rfl, rfl, hr, rfl⟩ := hrel
                    by_cases hlz : z < f + s
                    · have x1 : w9.cell? ⟨xb, z, none⟩ = some (.slice (some ⟨α z, 0, none⟩) W W) := HX9.out.sl (by omega)
                      obtain ⟨y, hy⟩ : ∃ y, y = (S z).x j := ⟨_, rfl⟩
                      have x2 : w9.cell? ⟨α z, j, none⟩ = some (B y) := by rw [hy, ← encM_data (D := n') (L := L) (X := fun i => (S i).x) (by omega) j]; exact HX9.out.at (by omega) hlj
                      obtain ⟨r', hr'⟩ : ∃ r, r = rest n' f s (fun i => (S i).x) j (z + 1) := ⟨_, rfl⟩
                      have hbx : bits .xor .u8 (r.toNat : Int) (y.toNat : Int) = (r'.toNat : Int) := by rw [hr', ← rest_next hlz (by omega), hr, hy]; exact xor8 _ _
                      have HR' := Lib.hid hr'
                      clear hr hr' hy
                      go_wp2_with fail
                      go_roundg (f + s - (z + 1))
                      case measure => omega
                      case rel => exact ⟨z + 1, r', by omega, by omega, by omega, by go_num, rfl, HR'.out, rfl⟩
                    · obtain rfl : z = f + s := by omega
                      rw [rest_end] at hr
                      subst hr
                      have hz : (((0 : UInt8).toNat : Int) != 0) = false := rfl
                      go_wp2_with fail
                      go_roundg (W - (j + 1))
                      case measure => omega
                      case rel => exact ⟨j + 1, rfl, by omega, by go_num, rfl⟩
                · obtain rfl : W = j := by omega
                  go_wp2_with fail
                  go_roundg (L - (u + 1))
                  case measure => omega
                  case rel => exact ⟨u + 1, rfl, by omega, by go_num, rfl⟩
            · obtain rfl : L = u := by omega
              have p1 : w9.cell? ⟨w.heap.size, 1, none⟩ = some (I L) := HP9.out 1 (by omega)
              go_wp2_with fail
              go_ret
              exact ⟨rfl, HF.out.trans ⟨rfl, rfl, rfl, Nat.le_refl _, fun _ _ => rfl⟩⟩
end Go.Proofs.YthaamnjpjkkolabDoor
