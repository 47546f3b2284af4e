import Derived.Test.YthaamnjpjkkolabDoorRunS
import Derived.Test.YthaamnjpjkkolabDoorAdd
import Derived.Test.YthaamnjpjkkolabDoorEnc
import Derived.OwnWalk
/- The program's Run. -/
namespace Go.Proofs.YthaamnjpjkkolabDoor
open Go.RowKit Go.Proofs
set_option maxRecDepth 100000
set_option linter.unusedVariables false

theorem Upd.undrewN {G : Nat → Prop} {w w' : World} {n : Nat} (h : Upd G (w.drewN n) w') : Upd G w w' := ⟨h.os, h.tape, h.output, h.size, h.block⟩

def runN (S : Nat → Stp) (T : Nat → Sl) (n : Nat) : Nat := (max (firstN S (lenS T) n) 0).toNat
def runX (T : Nat → Sl) : Nat → Nat → UInt8 := fun j => (T j).x

def RunIs (w : World) (regs : Int) (n : Nat) (S : Nat → Stp) (m : Nat) (T : Nat → Sl) (e : Ending) (w' : World) : Prop :=
  (OkP regs n S (m : Int) ∧ LoadTo S (hereS T) (lenS T) n ∧ (∃ v γ, e = .returned (.tuple #[v, .nilIface]) ∧ Outs w.heap.size 89 w' v (outL (runX T) S n) (runN S T n) γ) ∨
   OkP regs n S (m : Int) ∧ ¬ LoadTo S (hereS T) (lenS T) n ∧ e = .returned (.tuple #[.slice none 0 0, .iface 33 (I 2)]) ∨
   ¬ OkP regs n S (m : Int) ∧ e = .returned (.tuple #[.slice none 0 0, .iface 33 (I 4)])) ∧ Below w.heap.size w w'

theorem infoAO : (Tryd.prog.info? 89).map (fun i => (i.zero, i.size, i.bytes)) = some (some (.agg #[.int .i64 0, .slice none 0 0]), 2, 32) := by kernel_rfl

theorem make_cap (N : Nat) (hN : N ≤ 1000000) (w : World) :
    (Instr.makeSlice 28 (.int .i64 0) (.int .i64 (N : Int))).run Tryd.prog w = .ok (.slice (some ⟨w.heap.size, 0, none⟩) 0 N) (w.alloc (.cells (madeCells #[.int .u8 0] N) 5)) := by
  obtain ⟨i, hi, hz, hs, hb⟩ := info_parts infoU8
  have := run_make (P := Tryd.prog) w 28 5 i (.int .u8 0) Tryd.underlying28 hi hz .i64 .i64 0 (N : Int) (by omega) (by omega) (by rw [hb]; omega) (by omega)
  simpa [hs, Value.cells] using this

set_option maxHeartbeats 8000000 in
theorem run_any (a a' : Option Addr) (b b' o o' n m c c' : Nat) (S : Nat → Stp) (T : Nat → Sl) (regs : Int) (w : World) (h : Stps w a b o n c fun i => sc (S i)) (hT : Shs w a' b' o' m c' T) :
    Calls Tryd.prog 33 #[.agg #[I regs, .slice a n c], .slice a' m c'] w (RunIs w regs n S m T) := by
  have HS := Lib.hid h
  have HT := Lib.hid hT
  have hcap := h.cap; have hmax := h.max; have hc2 := hT.cap; have hm2 := hT.max
  clear h hT
  have HB := Lib.hid ((Below.refl w.heap.size w).alloc (Nat.le_refl _) (.cells #[I regs, .slice a n c] 39))
  have HP := Lib.hid (Pair.new w 39 (I regs) (.slice a n c))
  go_enter Tryd.func33, Tryd.ntmps33
  go_wp2_with fail
  refine (check_any a b o n c S regs (m : Int) _ (HS.out.later HB.out)).mono ?_
  rintro e w1 ⟨⟨hP, rfl⟩ | ⟨hP, rfl⟩, hb1⟩
  case inr =>
    have HQ := Lib.hid hP
    have HB1 := Lib.hid (HB.out.trans (hb1.mono (by rw [World.size_alloc]; omega)))
    clear hP hb1
    go_wp2_with fail
    go_ret2
    exact ⟨.inr (.inr ⟨HQ.out, rfl⟩), HB1.out⟩
  have HQ := Lib.hid hP
  have hr0 := hP.1; have hr1 := hP.2.1; have hn2 := hP.2.2.1
  have HO := Lib.hid hP.2.2.2
  have HB1 := Lib.hid (HB.out.trans (hb1.mono (by rw [World.size_alloc]; omega)))
  have HP1 := Lib.hid (HP.out.later hb1)
  have p0 := HP1.out.c0; have p1 := HP1.out.c1
  clear hP hb1
  go_wp2_with fail
  refine (length_any a a' b b' o o' n m c c' S T regs w1 (HS.out.later HB1.out) (HT.out.later HB1.out) HO.out).mono ?_
  rintro e w2 ⟨⟨hL, rfl⟩ | ⟨hL, rfl⟩, hb2⟩
  case inr =>
    have HL := Lib.hid hL
    have HB2 := Lib.hid (HB1.out.trans (hb2.mono HB1.out.size))
    clear hL hb2 p0 p1
    go_wp2_with fail
    go_ret2
    exact ⟨.inr (.inl ⟨HQ.out, HL.out, rfl⟩), HB2.out⟩
  have HL := Lib.hid hL
  have HB2 := Lib.hid (HB1.out.trans (hb2.mono HB1.out.size))
  have HP2 := Lib.hid (HP1.out.later hb2)
  have hfm := firstN_max hL
  clear hL hb2 p0 p1
  obtain ⟨N, hN⟩ : ∃ N : Nat, N = runN S T n := ⟨_, rfl⟩
  have hNI : max (firstN S (lenS T) n) 0 = (N : Int) := by rw [hN]; unfold runN; omega
  have hN4 : N ≤ 4096 := by omega
  have HNr := Lib.hid hN
  have HLn := Lib.hid (fun i hi hk => (load_len HL.out (i := i) hi hk).trans hNI)
  rw [hNI]
  clear hN hNI hfm
  obtain ⟨R, rfl⟩ : ∃ R : Nat, regs = (R : Int) := ⟨regs.toNat, by omega⟩
  have hR : R ≤ 32 := by omega
  have p0 := HP2.out.c0; have p1 := HP2.out.c1
  have hmk1 := make_bss (R : Int) (by omega) (by omega)
  have hmk2 := make_bytes (N : Int) (by omega) (by omega)
  simp only [Int.toNat_natCast] at hmk1 hmk2
  have HM0 := Lib.hid (Making.start (w := w2) (Below.refl _ _) R N)
  go_wp2_with fail
  clear p0 p1
  go_loopg [10, 35] R (fun g x i wr => ∃ k : Nat, g = R - k ∧ k ≤ R ∧ i = I k ∧ Making w2 wr w2.heap.size R N k)
  case atStart => exact ⟨0, rfl, by omega, rfl, HM0.out⟩
  case round =>
    obtain ⟨k, rfl, hk, rfl, hm⟩ := hrel
    have HM := Lib.hid hm
    have hsz : wr.heap.size = w2.heap.size + 1 + k := hm.size
    have hgl : w2.heap.size < wr.heap.size := by omega
    clear hm HM0
    by_cases hlt : k < R
    · have d1 : wr.cell? ⟨w2.heap.size, k, none⟩ = some (.slice none 0 0) := by have := HM.out.outer.cell k hlt; simpa using this
      have d2 : wr.frozen? ⟨w2.heap.size, k, none⟩ = false := by have := HM.out.outer.free k hlt; simpa using this
      have HM1 := Lib.hid (World.setCell_alloc_past (w := wr) (.cells (madeCells #[.int .u8 0] N) 5) w2.heap.size k (.slice (some ⟨wr.heap.size, 0, none⟩) N N) hgl ▸ HM.out.next hlt)
      have HZ := Lib.hid hsz
      clear hsz
      go_wp2_with fail
      go_roundg (R - (k + 1))
      case measure => omega
      case rel => exact ⟨k + 1, rfl, by omega, by go_num, HM1.out⟩
    · obtain rfl : R = k := by omega
      have HM1 := Lib.hid HM.out.done
      have HBm := Lib.hid (HB2.out.trans (HM.out.below.mono HB2.out.size))
      have p1 : wr.cell? ⟨w.heap.size, 1, none⟩ = some (.slice a n c) := (HP2.out.later HM.out.below).c1
      have hg0 : w.heap.size ≤ w2.heap.size := HB2.out.size
      clear hlt HM
      go_wp2_with fail
      clear p1
      go_loopg [11, 47] n (fun g u i w3 => ∃ (k : Nat) (γ : Nat → Nat), g = n - k ∧ k ≤ n ∧ i = I k ∧ Below w.heap.size w w3 ∧ Mx w3 w2.heap.size R N (fun i => w2.heap.size + 1 + i) (regsAt (runX T) S k) ∧ Outs w.heap.size 89 w3 u (outL (runX T) S k) N γ ∧ (∀ j, j < (outL (runX T) S k).length → w2.heap.size + 1 + R ≤ γ j) ∧ w2.heap.size + 1 + R ≤ w3.heap.size)
      case atStart => exact ⟨0, fun _ => 0, rfl, by omega, rfl, HBm.out, HM1.out, Outs.start _ _ _ _ _, fun j hj => absurd hj (by simp [outL]), by omega⟩
      case round =>
        obtain ⟨k, γ, rfl, hk, rfl, hb, hmx, hou, hsep, hs3⟩ := hrel
        have HBr := Lib.hid hb
        have HM := Lib.hid hmx
        have HU := Lib.hid hou
        have HSP := Lib.hid hsep
        obtain ⟨ua, ub, uc, rfl, hue, hub, _⟩ := hou.vz.shape
        have hol := outL_len (runX T) S k
        clear hb hmx hou hsep hue hub HM1 HBm hsz
        by_cases hlt : k < n
        · obtain rfl := HS.out.addr (by omega)
          have hst := HO.out k hlt
          have hat := (HS.out.later HBr.out).rd.at4 hlt
          have HRG := Lib.hid (show regsAt (runX T) S (k + 1) = stepR (runX T) (S k) (regsAt (runX T) S k) from rfl)
          have HOL := Lib.hid (show outL (runX T) S (k + 1) = if (S k).k.toNat = 2 then outL (runX T) S k ++ [((S k).b, regsAt (runX T) S k (S k).a.toNat)] else outL (runX T) S k from rfl)
          have HLk := Lib.hid (fun hk => HLn.out k hlt hk)
          obtain ⟨s, hs⟩ : ∃ s, s = S k := ⟨_, rfl⟩
          rw [← hs] at hat hst HRG HOL HLk
          obtain ⟨A, hA⟩ : ∃ A : Nat, s.a = (A : Int) := ⟨s.a.toNat, by unfold OkStep at hst; omega⟩
          have hAR : A < R := by unfold OkStep at hst; omega
          have hAI : (A : Int) < (R : Int) := by omega
          have c0 : wr.cell? ⟨b, o + k * 4, none⟩ = some (B s.k) := hat.c0
          have c1 : wr.cell? ⟨b, o + k * 4 + 1, none⟩ = some (I (A : Int)) := hA ▸ hat.c1
          have c2 : wr.cell? ⟨b, o + k * 4 + 2, none⟩ = some (I s.b) := hat.c2
          have c3 : wr.cell? ⟨b, o + k * 4 + 3, none⟩ = some (B s.c) := hat.c3
          have HAA := Lib.hid (show s.a.toNat = A by omega)
          have HSk := Lib.hid hs
          have hgl : w2.heap.size < wr.heap.size := by omega
          have HF1 := Lib.hid (Row.new4 wr (B s.k) (I (A : Int)) (I s.b) (B s.c) 84)
          have HM2 := Lib.hid (HM.out.later' ((Below.refl _ _).alloc (Nat.le_refl _) (.cells #[B s.k, I (A : Int), I s.b, B s.c] 84)))
          have HU2 := Lib.hid (HU.out.later ((Below.refl _ _).alloc (Nat.le_refl _) (.cells #[B s.k, I (A : Int), I s.b, B s.c] 84)))
          have HB3 := Lib.hid (HBr.out.alloc HBr.out.size (.cells #[B s.k, I (A : Int), I s.b, B s.c] 84))
          have hs4 : wr.heap.size < (wr.alloc (.cells #[B s.k, I (A : Int), I s.b, B s.c] 84)).heap.size := by rw [World.size_alloc]; omega
          have HST := Lib.hid hst
          clear hs hat hA hst
          rcases (show s.k.toNat = 0 ∨ s.k.toNat = 1 ∨ s.k.toNat = 2 by have := HST.out; unfold OkStep at this; omega) with e | e | e
          · have t0 := btrue (a := (s.k.toNat : Int)) (b := 0) (by omega)
            have HE := Lib.hid e
            clear e
            obtain ⟨j, hj⟩ : ∃ j : Nat, s.b = (j : Int) := ⟨s.b.toNat, by have := HST.out; unfold OkStep at this; have := HE.out; omega⟩
            have hjm : j < m := by have := HST.out; unfold OkStep at this; have := HE.out; omega
            have hjI : (j : Int) < (m : Int) := by omega
            have HLj := Lib.hid (show lenS T j = N ∧ hereS T j by
              have h1 := HLk.out HE.out
              have h2 := (HL.out k hlt (by rw [← HSk.out]; exact HE.out)).1
              rw [← HSk.out, show s.b.toNat = j by omega] at h2
              rw [show s.b.toNat = j by omega] at h1
              exact ⟨by omega, h2⟩)
            have HBj := Lib.hid (show s.b.toNat = j by omega)
            rw [hj] at c2 HF1 HM2 HU2 HB3 hs4
            clear hj
            obtain rfl := HT.out.addr (by omega)
            have hbl' : b' < w.heap.size := HT.out.out.lt (by omega)
            have hok := HT.out.ok j hjm HLj.out.2
            have x2 : (wr.alloc (.cells #[B s.k, I (A : Int), I (j : Int), B s.c] 84)).cell? ⟨b', o' + j, none⟩ = some (.slice (some ⟨(T j).b, (T j).o, none⟩) N (T j).c) := by
              have := ((HT.out.later HB3.out).out) j hjm
              rw [this]
              show some (Value.slice (T j).a (T j).n (T j).c) = _
              rw [hok.1, show (T j).n = N from HLj.out.1]
            have HXj := Lib.hid (show Rd (wr.alloc (.cells #[B s.k, I (A : Int), I (j : Int), B s.c] 84)) (T j).b (T j).o N (bs (T j).x) by
              have h1 := hok.2.later HB3.out
              rwa [show (T j).n = N from HLj.out.1] at h1)
            have x1 : (wr.alloc (.cells #[B s.k, I (A : Int), I (j : Int), B s.c] 84)).cell? ⟨w2.heap.size, A, none⟩ = some (.slice (some ⟨w2.heap.size + 1 + A, 0, none⟩) N N) := by have := HM2.out.outer.cell A hAR; rwa [Nat.zero_add] at this
            clear hok
            go_wp2_with fail
            generalize wr.alloc (.cells #[B s.k, I (A : Int), I (j : Int), B s.c] 84) = W1 at *
            have e0 := HF1.out.c0; have e1 := HF1.out.c1; have e2 := HF1.out.c2
            go_still_tail 10, mixed
            change wpList _ _ _ _ _ (W1.drewN 1)
            go_wp2_with (refine wpList_copy_fn rfl (.tmp 59) (.tmp 64) 28 28 rfl 5 Tryd.underlying28 sizeU8 _ _ _ _ _ _ rfl rfl N (w2.heap.size + 1 + A) 0 N (T j).b (T j).o (bs (regsAt (runX T) S k A)) (bs (T j).x) (by show N = min N N; omega) (Nat.le_refl _) ((HM2.out.rows A hAR).drewN 1) (HXj.out.drewN 1) (fun _ => rfl) (fun _ => rfl) (fun _ _ => rfl) ?_; intro w3 hu3 hz3 hk3 hr3; have HU3 := Lib.hid hu3; have HK3 := Lib.hid hk3; have HR3 := Lib.hid hr3; have HZ3 := Lib.hid hz3; clear hu3 hz3 hk3 hr3)
            go_roundg (n - (k + 1))
            case measure => omega
            case rel =>
              have hZ : w3.heap.size = W1.heap.size := HZ3.out
              have hU : Upd (· = w2.heap.size + 1 + A) W1 w3 := HU3.out.undrewN
              refine ⟨k + 1, γ, rfl, by omega, by go_num, Below.upd HB3.out hU (fun b e => by omega) (by omega), ?_, ?_, ?_, by omega⟩
              · refine (HM2.out.turn hAR hU HK3.out (HR3.out.congr (g := bs (T j).x) fun t ht => by simp [ht])).congr fun r hr t ht => ?_
                rw [HRG.out]; unfold stepR; rw [if_pos HE.out, HAA.out, HBj.out]
                by_cases e : r = A
                · simp only [if_pos e]; rfl
                · simp only [if_neg e]
              · rw [show outL (runX T) S (k + 1) = outL (runX T) S k by rw [HOL.out, if_neg (show ¬ s.k.toNat = 2 by have := HE.out; omega)]]
                exact HU2.out.upd hU (fun j hj e => by have := HSP.out j hj; omega) fun t ht e => by
                  exact HU2.out.vz.block_ne (HM2.out.kd A hAR) (by decide) t ht e
              · rw [show outL (runX T) S (k + 1) = outL (runX T) S k by rw [HOL.out, if_neg (show ¬ s.k.toNat = 2 by have := HE.out; omega)]]
                exact HSP.out
          · have t0 := bfalse (a := (s.k.toNat : Int)) (b := 0) (by omega)
            have t1 := btrue (a := (s.k.toNat : Int)) (b := 1) (by omega)
            have HE := Lib.hid e
            clear e
            obtain ⟨j, hj⟩ : ∃ j : Nat, s.b = (j : Int) := ⟨s.b.toNat, by have := HST.out; unfold OkStep at this; have := HE.out; omega⟩
            have hjm : j < R := by have := HST.out; unfold OkStep at this; have := HE.out; omega
            have hjA : j ≠ A := by have := HST.out; unfold OkStep at this; have h1 := HE.out; have h2 := HAA.out; omega
            have hjI : (j : Int) < (R : Int) := by omega
            have HBj := Lib.hid (show s.b.toNat = j by omega)
            rw [hj] at c2 HF1 HM2 HU2 HB3 hs4
            clear hj
            have x1 : (wr.alloc (.cells #[B s.k, I (A : Int), I (j : Int), B s.c] 84)).cell? ⟨w2.heap.size, A, none⟩ = some (.slice (some ⟨w2.heap.size + 1 + A, 0, none⟩) N N) := by have := HM2.out.outer.cell A hAR; rwa [Nat.zero_add] at this
            have x2 : (wr.alloc (.cells #[B s.k, I (A : Int), I (j : Int), B s.c] 84)).cell? ⟨w2.heap.size, j, none⟩ = some (.slice (some ⟨w2.heap.size + 1 + j, 0, none⟩) N N) := by have := HM2.out.outer.cell j hjm; rwa [Nat.zero_add] at this
            go_wp2_with fail
            generalize wr.alloc (.cells #[B s.k, I (A : Int), I (j : Int), B s.c] 84) = W1 at *
            have e0 := HF1.out.c0; have e1 := HF1.out.c1; have e2 := HF1.out.c2; have e3 := HF1.out.c3
            go_still_tail 12, mixed
            change wpList _ _ _ _ _ (W1.drewN 1)
            go_wp2_with (go_at_call 47; refine (addTo_any (some ⟨w2.heap.size + 1 + j, 0, none⟩) (w2.heap.size + 1 + A) N N (w2.heap.size + 1 + j) 0 N N (regsAt (runX T) S k A) (regsAt (runX T) S k j) s.c _ ((HM2.out.rows A hAR).drewN 1) (fun _ => rfl) ((HM2.out.rows j hjm).drewN 1).rd (fun _ => by omega) (Nat.le_refl _) (by omega)).mono ?_; rintro e w3 ⟨rfl, hadd⟩; have HADD := Lib.hid hadd; clear hadd)
            go_roundg (n - (k + 1))
            case measure => omega
            case rel =>
              have hU : Upd (· = w2.heap.size + 1 + A) W1 w3 := HADD.out.upd.undrewN
              have hZ : W1.heap.size ≤ w3.heap.size := hU.size
              refine ⟨k + 1, γ, rfl, by omega, by go_num, Below.upd HB3.out hU (fun b e => by omega) (by omega), ?_, ?_, ?_, by omega⟩
              · refine (HM2.out.turn hAR hU HADD.out.kd HADD.out.row).congr fun r hr t ht => ?_
                rw [HRG.out]; unfold stepR; rw [if_neg (show ¬ s.k.toNat = 0 by have := HE.out; omega), if_pos HE.out, HAA.out, HBj.out]
                by_cases e : r = A
                · simp only [if_pos e, if_pos ht]
                · simp only [if_neg e]
              · rw [show outL (runX T) S (k + 1) = outL (runX T) S k by rw [HOL.out, if_neg (show ¬ s.k.toNat = 2 by have := HE.out; omega)]]
                exact HU2.out.upd hU (fun j hj e => by have := HSP.out j hj; omega) fun t ht e => by
                  exact HU2.out.vz.block_ne (HM2.out.kd A hAR) (by decide) t ht e
              · rw [show outL (runX T) S (k + 1) = outL (runX T) S k by rw [HOL.out, if_neg (show ¬ s.k.toNat = 2 by have := HE.out; omega)]]
                exact HSP.out
          · have t0 := bfalse (a := (s.k.toNat : Int)) (b := 0) (by omega)
            have t1 := bfalse (a := (s.k.toNat : Int)) (b := 1) (by omega)
            have t2 := btrue (a := (s.k.toNat : Int)) (b := 2) (by omega)
            have HE := Lib.hid e
            clear e
            have x1 : (wr.alloc (.cells #[B s.k, I (A : Int), I s.b, B s.c] 84)).cell? ⟨w2.heap.size, A, none⟩ = some (.slice (some ⟨w2.heap.size + 1 + A, 0, none⟩) N N) := by have := HM2.out.outer.cell A hAR; rwa [Nat.zero_add] at this
            go_wp2_with fail
            generalize wr.alloc (.cells #[B s.k, I (A : Int), I s.b, B s.c] 84) = W1 at *
            have e0 := HF1.out.c0; have e1 := HF1.out.c1; have e2 := HF1.out.c2
            obtain ⟨ι, hι, wA, hwA, HWA⟩ := later_worlds W1
            have hgl1 : w2.heap.size < W1.heap.size := by omega
            have z0 := fun n => ((hwA n).cell (p := ⟨w2.heap.size, A, none⟩) hgl1).trans x1
            have z1 := fun n => ((hwA n).cell (p := ⟨wr.heap.size, 1, none⟩) hs4).trans e1
            have z2 := fun n => ((hwA n).cell (p := ⟨wr.heap.size, 2, none⟩) hs4).trans e2
            have hmkc := make_cap N (by omega)
            clear hwA hmk1 hmk2
            refine wp_region_held_seq [0, 1, 2, 3, 5, 6, 7, 8, 9] [4, 10, 11, 12] 13 (fun W => ∃ n, W = wA n) (by kernel_rfl) (by kernel_rfl) rfl ?hq (HWA.out _ (Below.refl _ _).drew) ?_
            case hq => intro c a d v w h; cases d <;> exact h
            simp only [pick, List.filterMap_cons, List.filterMap_nil, List.getElem?_cons_succ, List.getElem?_cons_zero, List.drop_succ_cons, List.drop_zero]
            change wpQuiet _ _ _ _ (_ :: _ :: _ :: _ :: _ :: _ :: _ :: _ :: _ :: []) _
            repeat (go_big_quiet_step (fail))
            refine wpQuiet_nil ?_
            clear z0 z1 z2
            simp only [chainM]
            refine wpOp_list (i := 4) rfl rfl ?_
            go_wp2_with fail
            refine ⟨HWA.out _ (((Below.refl _ _).alloc (Nat.le_refl _) _).drew), ?_⟩
            have HOW := Lib.hid (own_made W1 w.heap.size N (by omega) (by omega))
            have HXA := Lib.hid (((HM2.out.rows A hAR).rd.alloc (.cells (madeCells #[.int .u8 0] N) 5)).drewN 1)
            obtain ⟨iu, hiu, hzu, hsu, hbu⟩ := info_parts infoU8
            refine wpOp_list (i := 10) rfl rfl ?_
            refine wpList_append_fits _ rfl (.tmp 87) (.tmp 92) 28 rfl w.heap.size 5 iu 1 Tryd.underlying28 hiu hsu W1.heap.size 0 N [] rfl HOW.out ⟨w2.heap.size + 1 + A, 0, none⟩ N N ((List.range N).map (bs (regsAt (runX T) S k A))) rfl (by simp) (row_cells HXA.out) (fun u hu => by obtain ⟨j, _, rfl⟩ := List.mem_map.1 hu; rfl) (by omega) ?_
            intro w3 ho3 hg3
            have HR3 := Lib.hid (put_row ho3)
            have HB4 := Lib.hid (show Below W1.heap.size W1 w3 from ((Below.refl _ _).alloc (Nat.le_refl _) _).drew.grown hg3 (by show W1.heap.size ≤ (W1.alloc _).heap.size; rw [World.size_alloc]; omega) (fun k e => by cases e; exact Nat.le_refl _))
            have hs5 : W1.heap.size < w3.heap.size := HR3.out.2.lt
            clear ho3 hg3
            show _ ∧ _
            refine ⟨HWA.out _ HB4.out, ?_⟩
            refine wpOp_list (i := 11) rfl rfl ?_
            go_wp2_with fail
            refine ⟨HWA.out _ HB4.out, ?_⟩
            refine wpOp_list (i := 12) rfl rfl ?_
            go_wp2_with fail
            refine ⟨HWA.out _ (HB4.out.alloc (by omega) _), ?_⟩
            have HU3 := Lib.hid (HU2.out.later HB4.out)
            go_wp2_with (refine wpList_append_z rfl (.tmp 83) (.tmp 95) 45 rfl w.heap.size 89 (.agg #[.int .i64 0, .slice none 0 0]) 2 32 Tryd.underlying45 infoAO rfl (by omega) _ (outL (runX T) S k).length (outF γ N (outL (runX T) S k)) rfl HU3.out.vz #[I s.b, .slice (some ⟨W1.heap.size, 0, none⟩) N N] rfl 89 rfl (by simp [Value.oneCell']) (by omega) (by omega) (by omega) ?_; intro v4 w4 hv4 hu4; have HV4 := Lib.hid hv4; have HU4 := Lib.hid hu4; clear hv4 hu4)
            go_roundg (n - (k + 1))
            case measure => omega
            case rel =>
              have hB := HU2.out
              have hlt4 : ∀ t, some t = (Value.slice ua (outL (runX T) S k).length uc).ownBlock → w.heap.size ≤ t ∧ t < W1.heap.size := fun t e => HU2.out.vz.lt t e.symm
              have hZ : w3.heap.size ≤ w4.heap.size := HU4.out.size
              have eL : outL (runX T) S (k + 1) = outL (runX T) S k ++ [(s.b, regsAt (runX T) S k A)] := by rw [HOL.out, if_pos HE.out, HAA.out]
              have eR : regsAt (runX T) S (k + 1) = regsAt (runX T) S k := by
                rw [HRG.out]; unfold stepR; rw [if_neg (show ¬ s.k.toNat = 0 by have := HE.out; omega), if_neg (show ¬ s.k.toNat = 1 by have := HE.out; omega)]
              have hne : ∀ b, Kd W1 b 5 → ¬ some b = (Value.slice ua (outL (runX T) S k).length uc).ownBlock := fun b hb e => HU2.out.vz.block_ne hb (by decide) b e.symm rfl
              have hne2 : ¬ some w2.heap.size = (Value.slice ua (outL (runX T) S k).length uc).ownBlock := fun e => HU2.out.vz.block_ne HM2.out.gk (by decide) _ e.symm rfl
              refine ⟨k + 1, fun j => if j < (outL (runX T) S k).length then γ j else W1.heap.size, rfl, by omega, by go_num, ?_, ?_, ?_, ?_, by omega⟩
              · exact Below.upd (HB3.out.trans (HB4.out.mono (by omega))) HU4.out (fun b e => (hlt4 b e).1) (by omega)
              · rw [eR]
                exact (HM2.out.later' HB4.out).upd HU4.out (fun i hi => hne _ (HM2.out.kd i hi)) hne2
              · rw [eL]
                exact HU2.out.next (by decide) HB4.out (Nat.le_refl _) (by omega) HR3.out.1 HR3.out.2 HV4.out HU4.out
              · rw [eL]
                intro j hj
                rw [List.length_append, List.length_singleton] at hj
                by_cases e : j < (outL (runX T) S k).length
                · simp only [if_pos e]; exact HSP.out j e
                · simp only [if_neg e]; omega
        · obtain rfl : n = k := by omega
          go_wp2_with fail
          go_ret2
          exact ⟨.inl ⟨HQ.out, HL.out, _, γ, rfl, HNr.out ▸ HU.out⟩, HBr.out⟩
end Go.Proofs.YthaamnjpjkkolabDoor
