import Derived.Test.YthaamnjpjkkolabDoorAdd
import Derived.Test.YthaamnjpjkkolabDoorNewW
import Derived.Test.YthaamnjpjkkolabDoorComb
/- The program's Encode. -/
namespace Go.Proofs.YthaamnjpjkkolabDoor
open Go.RowKit Go.Proofs Lin
set_option maxRecDepth 100000
set_option linter.unusedVariables false

/-- All shards of data. -/
def encM (D L : Nat) (X : Nat → Nat → UInt8) : Mat := fun i k => dot D (codeM D L i) (fun j => X j k)

/-- A matrix of k rows of W bytes that was made behind w. -/
structure Mr (w wr : World) (v : Value) (k W : Nat) (M : Mat) (β : Nat → Nat) : Prop where
  below : Below w.heap.size w wr
  sh : ∃ a b c, v = .slice a k c ∧ (0 < k → a = some ⟨b, 0, none⟩) ∧ Rd wr b 0 k (fun j => .slice (some ⟨β j, 0, none⟩) W W) ∧ (0 < k → w.heap.size ≤ b ∧ Kd wr b 28) ∧ k ≤ c
  row : ∀ j, j < k → Row wr (β j) 0 W (bs (M j))
  kd : ∀ j, j < k → Kd wr (β j) 5
  own : ∀ j, j < k → w.heap.size ≤ β j
  up : ∀ i j, i < j → j < k → β i < β j

theorem make_bss (n : Int) (h0 : 0 ≤ n) (h1 : n ≤ 1000000) (w : World) :
    (Instr.makeSlice 24 (.int .i64 n) (.int .i64 n)).run Tryd.prog w = .ok (.slice (some ⟨w.heap.size, 0, none⟩) n.toNat n.toNat) (w.alloc (.cells (madeCells #[.slice none 0 0] n.toNat) 28)) := by
  have := run_make_row' (P := Tryd.prog) 24 28 (.slice none 0 0) 24 Tryd.underlying24 infoBs rfl .i64 .i64 n.toNat (by omega) (by omega) w
  rwa [Int.toNat_of_nonneg h0] at this

/-- Encode in the making: k shards are there. -/
structure Encd (w wr : World) (g N W k : Nat) (M : Mat) (γ : Nat → Nat) : Prop where
  below : Below w.heap.size w wr
  gown : w.heap.size ≤ g
  gk : Kd wr g 28
  outer : Row wr g 0 N (fun j => if j < k then .slice (some ⟨γ j, 0, none⟩) W W else .slice none 0 0)
  row : ∀ j, j < k → Row wr (γ j) 0 W (bs (M j))
  kd : ∀ j, j < k → Kd wr (γ j) 5
  own : ∀ j, j < k → w.heap.size ≤ γ j
  up : ∀ i j, i < j → j < k → γ i < γ j

section
variable {w w1 wr w2 : World} {g N W k : Nat} {M : Mat} {γ : Nat → Nat}
theorem Encd.start (hb : Below w.heap.size w w1) : Encd w (w1.alloc (.cells (madeCells #[.slice none 0 0] N) 28)) w1.heap.size N W 0 M γ :=
  ⟨hb.alloc hb.size _, hb.size, Kd.new _ _ _, (Row.new w1 _ N _).congr fun i _ => by simp, fun j hj => absurd hj (by omega), fun j hj => absurd hj (by omega), fun j hj => absurd hj (by omega), fun i j _ hj => absurd hj (by omega)⟩
theorem Encd.next (h : Encd w wr g N W k M γ) (hk : k < N)
    (hu : Upd (· = wr.heap.size) ((wr.setCell ⟨g, k, none⟩ (.slice (some ⟨wr.heap.size, 0, none⟩) W W)).alloc (.cells (madeCells #[.int .u8 0] W) 5)) w2)
    (hkd : KdKept ((wr.setCell ⟨g, k, none⟩ (.slice (some ⟨wr.heap.size, 0, none⟩) W W)).alloc (.cells (madeCells #[.int .u8 0] W) 5)) w2)
    (hr : Row w2 wr.heap.size 0 W (bs (M k))) : Encd w w2 g N W (k + 1) M (fun j => if j < k then γ j else wr.heap.size) := by
  have hs := h.below.size
  have hg := h.gk.lt
  have hlt : ∀ j, j < k → γ j < wr.heap.size := fun j hj => (h.kd j hj).lt
  have hne : ∀ j, j < k → g ≠ γ j := fun j hj => (h.gk.ne (h.kd j hj) (by decide))
  have ez : (wr.setCell ⟨g, k, none⟩ (.slice (some ⟨wr.heap.size, 0, none⟩) W W)).heap.size = wr.heap.size := Deep.nblk_setCell _ _ _
  refine ⟨?_, h.gown, hkd _ _ ((h.gk.set _ _).alloc _), ?_, fun j hj => ?_, fun j hj => ?_, fun j hj => ?_, fun i j hij hj => ?_⟩
  · exact Below.upd ((h.below.setCell h.gown _).alloc (by rw [ez]; exact hs) _) hu (fun b e => by omega) (by rw [Deep.nblk_alloc, ez]; omega)
  · have h1 := (h.outer.set hk (.slice (some ⟨wr.heap.size, 0, none⟩) W W)).alloc (.cells (madeCells #[.int .u8 0] W) 5)
    rw [Nat.zero_add] at h1
    refine (h1.upd hu fun _ => by omega).congr fun i hi => ?_
    by_cases e1 : i = k
    · subst e1; simp
    · by_cases e2 : i < k
      · simp [e1, e2, show i < k + 1 by omega]
      · simp [e1, e2, show ¬ i < k + 1 by omega]
  · by_cases e : j < k
    · simp only [if_pos e]
      refine (((h.row j e).other (a := ⟨g, k, none⟩) (hne j e) _).alloc _).upd hu fun _ => ?_
      have := hlt j e; omega
    · obtain rfl : j = k := by omega
      simp only [if_neg e]; exact hr
  · by_cases e : j < k
    · simp only [if_pos e]; exact hkd _ _ (((h.kd j e).set _ _).alloc _)
    · simp only [if_neg e]
      have := Kd.new (wr.setCell ⟨g, k, none⟩ (.slice (some ⟨wr.heap.size, 0, none⟩) W W)) (madeCells #[.int .u8 0] W) 5
      rw [ez] at this
      exact hkd _ _ this
  · by_cases e : j < k
    · simp only [if_pos e]; exact h.own j e
    · simp only [if_neg e]; exact hs
  · by_cases e : j < k
    · simp only [if_pos e, if_pos (show i < k by omega)]; exact h.up i j hij e
    · simp only [if_neg e, if_pos (show i < k by omega)]; exact hlt i (by omega)
theorem Encd.mr (h : Encd w wr g N W N M γ) : Mr w wr (.slice (some ⟨g, 0, none⟩) N N) N W M γ :=
  ⟨h.below, ⟨_, g, N, rfl, fun _ => rfl, (h.outer.rd).congr fun i hi => by simp [hi], fun _ => ⟨h.gown, h.gk⟩, Nat.le_refl _⟩, h.row, h.kd, h.own, h.up⟩
end

/-- While a shard is worked out: j data shards are in. -/
structure Adding (wo wr : World) (r W j : Nat) (c : Nat → UInt8) (X : Nat → Nat → UInt8) : Prop where
  upd : Upd (· = r) wo wr
  kd : KdKept wo wr
  row : Row wr r 0 W (bs (fun t => dot j c (fun q => X q t)))
theorem Adding.next {wo wr w2 : World} {r W j : Nat} {c : Nat → UInt8} {X : Nat → Nat → UInt8} (h : Adding wo wr r W j c X)
    (ha : Added wr w2 r W (fun t => if t < W then dot j c (fun q => X q t) ^^^ Gf.mul (c j) (X j t) else dot j c (fun q => X q t))) : Adding wo w2 r W (j + 1) c X :=
  ⟨h.upd.trans ha.upd fun _ e _ => e, h.kd.trans ha.kd, ha.row.congr fun t ht => by simp only [bs, if_pos ht]; rw [dot_succ]⟩
theorem Adding.drewN {wo wr : World} {r W j : Nat} {c : Nat → UInt8} {X : Nat → Nat → UInt8} (h : Adding wo wr r W j c X) (q : Nat) : Adding wo (wr.drewN q) r W j c X :=
  ⟨h.upd.drewN q, h.kd.drewN q, h.row.drewN q⟩

set_option maxHeartbeats 2000000 in
theorem encode_any (w0 : World) (cb D L G : Nat) (v : Value) (β : Nat → Nat) (a : Option Addr) (b o c W : Nat) (S : Nat → Sl) (w : World) (hC : CodeAt w0 w cb D L G v β) (hR : Right D L G)
    (ha : 0 < D → a = some ⟨b, o, none⟩) (hout : Rd w b o D (fun i => (S i).v)) (hok : ∀ i, i < D → (S i).ok w) (hW : ∀ i, i < D → (S i).n = W) (hW2 : W ≤ 4096) (hc : D ≤ c) :
    Calls Tryd.prog 30 #[.pointer (some ⟨cb, 0, none⟩), .slice a D c] w fun e w' => ∃ v' γ, e = .returned v' ∧ Mr w w' v' (D + L + G) W (encM D L (fun i => (S i).x)) γ := by
  have h1 := hR.d1; have h2 := hR.d2; have h3 := hR.l1; have h4 := hR.l2; have h5 := hR.g2; have h7 := hR.sum
  obtain rfl := ha (by omega)
  have HC := Lib.hid hC
  have HO := Lib.hid hout
  have HK := Lib.hid hok
  have HW := Lib.hid hW
  have hcb : cb < w.heap.size := hC.kd.lt
  have c0 : w.cell? ⟨cb, 0, none⟩ = some (I D) := hC.par.cell 0 (by omega)
  have c1 : w.cell? ⟨cb, 1, none⟩ = some (I L) := hC.par.cell 1 (by omega)
  have c2 : w.cell? ⟨cb, 2, none⟩ = some (I G) := hC.par.cell 2 (by omega)
  have c3 : w.cell? ⟨cb, 3, none⟩ = some v := hC.at3.cell 0 (by omega)
  obtain ⟨va, vb, vc, rfl, hva, hvr, hvc, _, _⟩ := hC.gm.vc.shape
  have HV := Lib.hid hvr
  obtain rfl := hva (by omega)
  clear hC hR hout hok hW hva hvr ha
  have HNN := Lib.hid (show (D : Int) + (L : Int) + (G : Int) = ((D + L + G : Nat) : Int) by simp)
  obtain ⟨N, hN⟩ : ∃ N, N = D + L + G := ⟨_, rfl⟩
  rw [← hN] at HNN HV hvc c3 ⊢
  have hN16 : N ≤ 16 := by omega
  have HNE := Lib.hid hN
  clear hN
  have hmk := make_bss (N : Int) (by omega) (by omega)
  have hmb := make_bytes (W : Int) (by omega) (by omega)
  simp only [Int.toNat_natCast] at hmk hmb
  go_enter Tryd.func30, Tryd.ntmps30
  go_wp2_with (go_at_call 44; refine (shards_any D L G (by omega) _).mono ?_; rintro e w1 ⟨rfl, hb⟩; have HB := Lib.hid hb; have c31 : w1.cell? ⟨cb, 3, none⟩ = some (.slice (some ⟨vb, 0, none⟩) N vc) := (hb.cell (p := ⟨cb, 3, none⟩) hcb).trans c3; have hcb1 : cb < w1.heap.size := Nat.lt_of_lt_of_le hcb hb.size; clear hb; rw [HNN.out])
  go_loopg [21] N (fun g i wr => ∃ (k : Nat) (γ : Nat → Nat), g = N - k ∧ k ≤ N ∧ i = I k ∧ Encd w wr w1.heap.size N W k (encM D L fun i => (S i).x) γ)
  case atStart => exact ⟨0, fun _ => 0, rfl, by omega, rfl, Encd.start HB.out⟩
  case round =>
    obtain ⟨k, γ, rfl, hk, rfl, he⟩ := hrel
    have HE := Lib.hid he
    have HBw := Lib.hid he.below
    have hsz : w.heap.size < wr.heap.size := Nat.lt_of_le_of_lt he.gown he.gk.lt
    have hsz1 : w1.heap.size < wr.heap.size := he.gk.lt
    clear he
    by_cases hlt : k < N
    · have e1 : wr.cell? ⟨vb, k, none⟩ = some (.slice (some ⟨β k, 0, none⟩) D D) := by
        have := (HV.out.later HBw.out).cell k hlt; rwa [Nat.zero_add] at this
      have e2 : wr.cell? ⟨b, o, none⟩ = some (.slice (S 0).a (S 0).n (S 0).c) := (HO.out.later HBw.out) 0 (by omega)
      have hS0 := HW.out 0 (by omega)
      rw [hS0] at e2
      have g1 : ∀ ob, (wr.alloc ob).cell? ⟨w1.heap.size, k, none⟩ = some (.slice none 0 0) := fun ob => by
        have := (HE.out.outer.alloc ob).cell k hlt
        simpa using this
      have g2 : ∀ ob, (wr.alloc ob).frozen? ⟨w1.heap.size, k, none⟩ = false := fun ob => by
        have := (HE.out.outer.alloc ob).free k hlt
        simpa using this
      have HS0 := Lib.hid hS0
      clear hS0
      go_wp2_with fail
      have HU1 := Lib.hid (((Upd.refl (fun t => t = w1.heap.size) wr).setCell (a := ⟨w1.heap.size, k, none⟩) (fun _ => rfl) (.slice (some ⟨wr.heap.size, 0, none⟩) W W)).alloc (.cells (madeCells #[.int .u8 0] W) 5))
      have HR0 : Row ((wr.setCell ⟨w1.heap.size, k, none⟩ (.slice (some ⟨wr.heap.size, 0, none⟩) W W)).alloc (.cells (madeCells #[.int .u8 0] W) 5)) wr.heap.size 0 W (bs (fun t => dot 0 (codeM D L k) (fun q => (S q).x t))) := by
        have := Row.new (wr.setCell ⟨w1.heap.size, k, none⟩ (.slice (some ⟨wr.heap.size, 0, none⟩) W W)) (.int .u8 0) W 5
        rw [Deep.nblk_setCell] at this
        exact this.congr fun i _ => rfl
      have HR0' := Lib.hid HR0
      clear HR0
      have HM := Lib.hid (((HC.out.gm.row k (by have := HNE.out; omega)).later HBw.out).upd HU1.out fun _ e => by have := (HC.out.gm.kd k (by have := HNE.out; omega)).lt; have := HB.out.size; omega)
      have HOD := Lib.hid ((HO.out.later HBw.out).upd HU1.out fun _ e => by have := HO.out.lt (by omega); have := HB.out.size; omega)
      have HSD := Lib.hid (fun j (hj : j < D) => ((HK.out j hj).rd.later HBw.out).upd HU1.out fun h0 e => by have := (HK.out j hj).rd.lt h0; have := HB.out.size; omega)
      have HGC : ((wr.setCell ⟨w1.heap.size, k, none⟩ (.slice (some ⟨wr.heap.size, 0, none⟩) W W)).alloc (.cells (madeCells #[.int .u8 0] W) 5)).cell? ⟨w1.heap.size, k, none⟩ = some (.slice (some ⟨wr.heap.size, 0, none⟩) W W) := by
        have := ((HE.out.outer.set hlt (.slice (some ⟨wr.heap.size, 0, none⟩) W W)).alloc (.cells (madeCells #[.int .u8 0] W) 5)).cell k hlt
        rw [Nat.zero_add] at this
        simpa using this
      have HGC' := Lib.hid HGC
      clear HGC
      have HN := Lib.hid (fun w2 => HE.out.next (w2 := w2) hlt)
      have hz2 : wr.heap.size < ((wr.setCell ⟨w1.heap.size, k, none⟩ (.slice (some ⟨wr.heap.size, 0, none⟩) W W)).alloc (.cells (madeCells #[.int .u8 0] W) 5)).heap.size := by rw [Deep.nblk_alloc, Deep.nblk_setCell]; omega
      generalize (wr.setCell ⟨w1.heap.size, k, none⟩ (.slice (some ⟨wr.heap.size, 0, none⟩) W W)).alloc (.cells (madeCells #[.int .u8 0] W) 5) = W2 at *
      clear e1 e2 g1 g2
      obtain ⟨r, hr⟩ : ∃ r, r = wr.heap.size := ⟨_, rfl⟩
      rw [← hr] at HR0' HGC' HN hz2 hsz hsz1
      have HSL := Lib.hid (fun j (hj : j < D) => (HK.out j hj).rd.lt)
      have HAD := Lib.hid (fun j (hj : j < D) => (HK.out j hj).addr)
      have hblt : b < r := by have := HO.out.lt (by omega); omega
      have hbk : β k < r := by have := (HC.out.gm.kd k (by have := HNE.out; omega)).lt; omega
      rw [← hr]
      clear hr HE HU1
      go_loopg [36] D (fun g i w3 => ∃ j : Nat, g = D - j ∧ j ≤ D ∧ i = I j ∧ Adding W2 w3 r W j (codeM D L k) (fun q => (S q).x))
      case atStart => exact ⟨0, rfl, by omega, rfl, ⟨Upd.refl _ _, KdKept.refl _, HR0'.out⟩⟩
      case round =>
        obtain ⟨j, rfl, hj, rfl, hA⟩ := hrel
        have HA := Lib.hid hA
        clear hA
        by_cases hlt2 : j < D
        · have q1 : wr.cell? ⟨β k, j, none⟩ = some (B (codeM D L k j)) := by
            have := (HM.out.upd HA.out.upd fun _ => by omega).cell j hlt2
            rwa [Nat.zero_add] at this
          have q2 : wr.cell? ⟨w1.heap.size, k, none⟩ = some (.slice (some ⟨r, 0, none⟩) W W) := by
            rw [← HGC'.out]
            exact World.cell?_of_block (a := ⟨w1.heap.size, k, none⟩) (HA.out.upd.block _ (by show w1.heap.size < _; omega) (by show ¬ w1.heap.size = r; omega))
          have q3 : wr.cell? ⟨b, o + j, none⟩ = some (.slice (S j).a (S j).n (S j).c) := (HOD.out.upd HA.out.upd fun _ => by omega) j hlt2
          have hSj := HW.out j hlt2
          rw [hSj] at q3
          have HSj := Lib.hid hSj
          clear hSj
          have hcall := Lib.hid (fun w' (h1 : Row w' r 0 W (bs (fun t => dot j (codeM D L k) (fun q => (S q).x t)))) h2 => addTo_any (S j).a r W W (S j).b (S j).o W (S j).c (fun t => dot j (codeM D L k) (fun q => (S q).x t)) (S j).x (codeM D L k j) w' h1 (fun h0 => HAD.out j hlt2 (by have := HSj.out; omega)) h2 (fun h0 => by have := HSL.out j hlt2 (by have := HSj.out; omega); omega) (Nat.le_refl _) (by omega))
          have hrd := Lib.hid (show Rd wr (S j).b (S j).o W (bs (S j).x) by
            have h1 := (HSD.out j hlt2).upd HA.out.upd fun h0 => by have := HSL.out j hlt2 h0; omega
            rwa [HSj.out] at h1)
          go_wp2_with fail
          go_still_tail 9, mixed
          change wpList _ _ _ _ _ (wr.drewN 1)
          go_wp2_with (go_at_call 47; refine (hcall.out _ (HA.out.row.drewN 1) (hrd.out.drewN 1)).mono ?_; rintro e w5 ⟨rfl, had⟩; have HAD2 := Lib.hid had; clear had)
          go_roundg (D - (j + 1))
          case measure => omega
          case rel => exact ⟨j + 1, rfl, by omega, by go_num, (HA.out.drewN 1).next HAD2.out⟩
        · obtain rfl : D = j := by omega
          go_wp2_with fail
          go_roundg (N - (k + 1))
          case measure => omega
          case rel => exact ⟨k + 1, _, rfl, by omega, by go_num, HN.out _ HA.out.upd HA.out.kd HA.out.row⟩
    · obtain rfl : N = k := by omega
      go_wp2_with fail
      go_ret
      exact ⟨_, _, rfl, HE.out.mr⟩
end Go.Proofs.YthaamnjpjkkolabDoor
