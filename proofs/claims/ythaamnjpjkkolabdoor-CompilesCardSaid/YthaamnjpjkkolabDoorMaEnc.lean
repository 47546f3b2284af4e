import Derived.Test.YthaamnjpjkkolabDoorMaMat
import Derived.Deep.RegionWith
import Derived.Test.YthaamnjpjkkolabDoorMaPlain
import Derived.Test.YthaamnjpjkkolabDoorMaHeap
/- Tables; AddTo, of whatever rows. -/
namespace Go.Proofs.YthaamnjpjkkolabDoor
open Go.RowKit Go.Proofs
set_option maxRecDepth 100000
set_option linter.unusedVariables false

theorem tableZero : Tryd.zeroCells152 = madeCells #[.int .u8 0] 256 := by kernel_rfl

/-- A row made of literals. -/
theorem Row.newZ (w : World) (n : Nat) (t : TypeId) (cs : Array Value) (h : cs = madeCells #[.int .u8 0] n) : Row (w.alloc (.cells cs t)) w.heap.size 0 n (bs fun _ => 0) := by
  subst h; exact (Row.new w (.int .u8 0) n t).congr fun i _ => by simp [bs, B]

theorem mul_wrap (x z : UInt8) (w : World) : Calls Tryd.prog 62 #[B x, .int .u8 (IntKind.u8.wrap (z.toNat : Int))] w fun e w' => e = .returned (B (Gf.mul x z)) ∧ w' = w := by
  have e : IntKind.u8.wrap (z.toNat : Int) = (z.toNat : Int) := by
    show (z.toNat : Int) % 2 ^ 8 = _
    have := z.toNat_lt; omega
  rw [e]; exact mul_still x z w

set_option maxHeartbeats 1000000 in
theorem by_any (c : UInt8) (w : World) : Calls Tryd.prog 63 #[B c] w fun e w' => e = .returned (.pointer (some ⟨w.heap.size, 0, none⟩)) ∧ Below w.heap.size w w' ∧ Row w' w.heap.size 0 256 (bs (fun j => Gf.mul c (UInt8.ofNat j))) := by
  have HR := Lib.hid (Row.newZ w 256 152 _ tableZero)
  go_enter Tryd.func63, Tryd.ntmps63
  go_wp2_with fail
  generalize hW : w.alloc (.cells Tryd.zeroCells152 152) = W at *
  have HB := Lib.hid (hW ▸ (Below.refl w.heap.size w).alloc (Nat.le_refl _) _)
  clear hW
  go_loopg [7] 256 (fun g i wr => ∃ m : Nat, g = 256 - m ∧ m ≤ 256 ∧ i = I m ∧ Doing W wr w.heap.size 256 m (fun _ => 0) (fun j => Gf.mul c (UInt8.ofNat j)))
  case atStart => exact ⟨0, rfl, by omega, rfl, Doing.start HR.out⟩
  case round =>
    obtain ⟨m, rfl, hm, rfl, hd⟩ := hrel
    have HD := Lib.hid hd
    clear hd
    by_cases hlt : m < 256
    · have d1 := (HD.out.drewN 1).cellAt hlt
      have d2 := (HD.out.drewN 1).freeAt hlt
      obtain ⟨z, hz⟩ : ∃ z : UInt8, z.toNat = m := ⟨UInt8.ofNat m, by rw [UInt8.toNat_ofNat']; omega⟩
      have HZ := Lib.hid (show Gf.mul c z = Gf.mul c (UInt8.ofNat m) by rw [← hz, UInt8.ofNat_toNat])
      subst hz
      have hzlt : z.toNat < 256 := z.toNat_lt
      go_wp2_with fail
      go_still_tail 8, mixed
      still_call (mul_wrap _ z _)
      repeat still_step
      refine wpStill_nil ?_
      change wpList _ _ _ _ _ (wr.drewN 1)
      go_wp2_with fail
      go_roundg (256 - (z.toNat + 1))
      case measure => omega
      case rel => exact ⟨z.toNat + 1, rfl, by omega, by go_num, (HD.out.drewN 1).next hlt (by rw [HZ.out])⟩
    · obtain rfl : m = 256 := by omega
      go_wp2_with fail
      go_ret
      exact ⟨rfl, Below.upd HB.out HD.out.upd (fun b e => by omega) HB.out.size, HD.out.done.row⟩
end Go.Proofs.YthaamnjpjkkolabDoor

/- AddTo, of whatever rows. -/
namespace Go.Proofs.YthaamnjpjkkolabDoor
open Go.RowKit Go.Proofs
set_option maxRecDepth 100000
set_option linter.unusedVariables false

/-- What AddTo leaves: its row turned; blocks that are new. -/
structure Added (w w' : World) (g n : Nat) (y : Nat → UInt8) : Prop where
  upd : Upd (· = g) w w'
  kd : KdKept w w'
  row : Row w' g 0 n (bs y)
theorem Done.added {w w' : World} {g n : Nat} {y : Nat → UInt8} (h : Done w w' g n y) : Added w w' g n y := ⟨h.upd, h.kd, h.row⟩

set_option maxHeartbeats 1000000 in
theorem addTo_long (a : Option Addr) (g n c b o m c' : Nat) (x y : Nat → UInt8) (s : UInt8) (w : World) (hx : Row w g 0 n (bs x)) (ha : 0 < m → a = some ⟨b, o, none⟩) (hy : Rd w b o m (bs y)) (hb : 0 < m → b ≠ g) (hm : m ≤ n) (hn : n ≤ 1000000)
    (h0 : s ≠ 0) (h1 : s ≠ 1) (hs : ¬ m < 100) :
    Calls Tryd.prog 47 #[.slice (some ⟨g, 0, none⟩) n c, .slice a m c', B s] w fun e w' => e = .returned (.tuple #[]) ∧ Added w w' g n (fun j => if j < m then x j ^^^ Gf.mul s (y j) else x j) := by
  have hg : g < w.heap.size := hx.lt (by omega)
  have HX := Lib.hid hx
  have HY := Lib.hid hy
  clear hx hy
  have e0 : ((s.toNat : Int) == 0) = false := byte_ne_lit (n := 0) h0 (by omega)
  have e1 : ((s.toNat : Int) == 1) = false := byte_ne_lit (n := 1) h1 (by omega)
  have hd : decide ((m : Int) < 100) = false := by simp; omega
  obtain rfl := ha (by omega)
  have hbg := hb (by omega)
  have hbw : b < w.heap.size := HY.out.lt (by omega)
  go_enter Tryd.func47, Tryd.ntmps47
  go_wp2_with (go_at_call 63; refine (by_any s _).mono ?_; rintro e w1 ⟨rfl, hb1, ht⟩; have HB1 := Lib.hid hb1; have HT := Lib.hid ht; clear hb1 ht)
  have hws : w.heap.size < w1.heap.size := HT.out.lt (by omega)
  go_loopw [40] (fun i wr => ∃ k : Nat, k ≤ m ∧ i = I k ∧ Doing w1 wr g n k x (fun j => if j < m then x j ^^^ Gf.mul s (y j) else x j)) (fun i _ => m - (intOf i).toNat)
  case atStart => exact ⟨0, by omega, rfl, Doing.start (HX.out.later HB1.out)⟩
  case round =>
    obtain ⟨k, hk, rfl, hd⟩ := hrel
    have HD := Lib.hid hd
    clear hd
    by_cases hlt : k < m
    · have c1 := HD.out.cellAt (show k < n by omega)
      have f1 := HD.out.freeAt (show k < n by omega)
      have c2 : wr.cell? ⟨b, o + k, none⟩ = some (B (y k)) := ((HY.out.later HB1.out).upd HD.out.upd fun _ => hbg) k hlt
      have hyk : (y k).toNat < 256 := (y k).toNat_lt
      have c3 : wr.cell? ⟨w.heap.size, (y k).toNat, none⟩ = some (B (Gf.mul s (y k))) := by
        have := (HT.out.upd HD.out.upd fun _ => by omega).cell (y k).toNat (y k).toNat_lt
        rw [Nat.zero_add] at this
        rw [this]; simp [bs]
      have hkn : k < n := by omega
      have hy1 : ((y k).toNat : Int) < 256 := by omega
      have hy0 : (0 : Int) ≤ ((y k).toNat : Int) := by omega
      go_wp2_with fail
      go_still_tail 11, mixed
      change wpList _ _ _ _ _ (wr.drewN 1)
      go_wp2
      go_roundw
      case rel => exact ⟨k + 1, by omega, by go_num, (HD.out.drewN 1).next (by omega) (by simp only [if_pos hlt]; exact xor8 _ _)⟩
      case measure => simp [intOf]; omega
    · go_wp2
      go_returns
      obtain rfl : k = m := by omega
      have hU : Upd (· = g) w w1 := (Upd.of_below HB1.out).mono fun _ _ h => h.elim
      exact ⟨rfl, hU.trans HD.out.upd fun _ e _ => e, (KdKept.below HB1.out).trans HD.out.kd, HD.out.row.congr fun j _ => by by_cases e : j < k <;> simp [bs, e]⟩

/-- AddTo, of whatever rows. -/
theorem addTo_any (a : Option Addr) (g n c b o m c' : Nat) (x y : Nat → UInt8) (s : UInt8) (w : World) (hx : Row w g 0 n (bs x)) (ha : 0 < m → a = some ⟨b, o, none⟩) (hy : Rd w b o m (bs y)) (hb : 0 < m → b ≠ g) (hm : m ≤ n) (hn : n ≤ 1000000) :
    Calls Tryd.prog 47 #[.slice (some ⟨g, 0, none⟩) n c, .slice a m c', B s] w fun e w' => e = .returned (.tuple #[]) ∧ Added w w' g n (fun j => if j < m then x j ^^^ Gf.mul s (y j) else x j) := by
  by_cases h0 : s = 0
  · subst h0
    refine (addTo_zero _ _ w).mono ?_
    rintro e w' ⟨rfl, rfl⟩
    exact ⟨rfl, Upd.refl _ _, KdKept.refl _, hx.congr fun j _ => by by_cases e : j < m <;> simp [bs, e, Gf.zero_mul]⟩
  by_cases h1 : s = 1
  · subst h1
    exact (addTo_one a g n c b o m c' x y w hx ha hy hb hm hn).mono fun e w' ⟨h, hd⟩ => ⟨h, hd.added⟩
  by_cases hs : m < 100
  · exact (addTo_small a g n c b o m c' x y s w hx ha hy hb hm hn h0 h1 hs).mono fun e w' ⟨h, hd⟩ => ⟨h, hd.added⟩
  · exact addTo_long a g n c b o m c' x y s w hx ha hy hb hm hn h0 h1 hs
end Go.Proofs.YthaamnjpjkkolabDoor

/- Shards of data, in plain words and in memory. -/
namespace Go.Proofs.YthaamnjpjkkolabDoor
open Go.RowKit Go.Proofs Lin
set_option maxRecDepth 100000
set_option linter.unusedVariables false

/-- All shards of data. -/
def encM (D L : Nat) (X : Nat → Nat → UInt8) : Mat := fun i k => dot D (codeM D L i) (fun j => X j k)

/-- A matrix of k rows of W bytes that was made behind w. -/
structure Mr (w wr : World) (v : Value) (k W : Nat) (M : Mat) (β : Nat → Nat) : Prop where
  below : Below w.heap.size w wr
  sh : ∃ a b c, v = .slice a k c ∧ (0 < k → a = some ⟨b, 0, none⟩) ∧ Rd wr b 0 k (fun j => .slice (some ⟨β j, 0, none⟩) W W) ∧ (0 < k → w.heap.size ≤ b ∧ Kd wr b 28) ∧ k ≤ c
  row : ∀ j, j < k → Row wr (β j) 0 W (bs (M j))
  kd : ∀ j, j < k → Kd wr (β j) 5
  own : ∀ j, j < k → w.heap.size ≤ β j
  up : ∀ i j, i < j → j < k → β i < β j

theorem make_bss (n : Int) (h0 : 0 ≤ n) (h1 : n ≤ 1000000) (w : World) :
    (Instr.makeSlice 24 (.int .i64 n) (.int .i64 n)).run Tryd.prog w = .ok (.slice (some ⟨w.heap.size, 0, none⟩) n.toNat n.toNat) (w.alloc (.cells (madeCells #[.slice none 0 0] n.toNat) 28)) := by
  have := run_make_row' (P := Tryd.prog) 24 28 (.slice none 0 0) 24 Tryd.underlying24 infoBs rfl .i64 .i64 n.toNat (by omega) (by omega) w
  rwa [Int.toNat_of_nonneg h0] at this

/-- Data that can be encoded. -/
def EncTo (n : Nat) (S : Nat → Sl) : Prop := ∀ i, i < n → (S i).n = (S 0).n ∧ (S i).n ≤ 4096
theorem EncTo.next {k : Nat} {S : Nat → Sl} (h : EncTo k S) (h1 : (S k).n = (S 0).n) (h2 : (S k).n ≤ 4096) : EncTo (k + 1) S := fun i hi => by
  by_cases e : i = k
  · subst e; exact ⟨h1, h2⟩
  · exact h i (by omega)
def EncP (D n : Nat) (S : Nat → Sl) : Prop := n = D ∧ EncTo n S

theorem Mr.mono {w0 w wr : World} {v : Value} {k W : Nat} {M : Mat} {β : Nat → Nat} (h : Mr w wr v k W M β) (hb : Below w0.heap.size w0 w) : Mr w0 wr v k W M β :=
  ⟨hb.trans (h.below.mono hb.size), (let ⟨a, b, c, h1, h2, h3, h4, h5⟩ := h.sh; ⟨a, b, c, h1, h2, h3, fun h0 => ⟨Nat.le_trans hb.size (h4 h0).1, (h4 h0).2⟩, h5⟩), h.row, h.kd, fun j hj => Nat.le_trans hb.size (h.own j hj), h.up⟩

theorem nfalse' {a b : Nat} (h : a = b) : ((a : Int) != (b : Int)) = false := by simp; omega
theorem ntrue' {a b : Nat} (h : a ≠ b) : ((a : Int) != (b : Int)) = true := by simp; omega

/-- Encode in the making: k shards are there. -/
structure Encd (w wr : World) (g N W k : Nat) (M : Mat) (γ : Nat → Nat) : Prop where
  below : Below w.heap.size w wr
  gown : w.heap.size ≤ g
  gk : Kd wr g 28
  outer : Row wr g 0 N (fun j => if j < k then .slice (some ⟨γ j, 0, none⟩) W W else .slice none 0 0)
  row : ∀ j, j < k → Row wr (γ j) 0 W (bs (M j))
  kd : ∀ j, j < k → Kd wr (γ j) 5
  own : ∀ j, j < k → w.heap.size ≤ γ j
  up : ∀ i j, i < j → j < k → γ i < γ j

section
variable {w w1 wr w2 : World} {g N W k : Nat} {M : Mat} {γ : Nat → Nat}
theorem Encd.start (hb : Below w.heap.size w w1) : Encd w (w1.alloc (.cells (madeCells #[.slice none 0 0] N) 28)) w1.heap.size N W 0 M γ :=
  ⟨hb.alloc hb.size _, hb.size, Kd.new _ _ _, (Row.new w1 _ N _).congr fun i _ => by simp, fun j hj => absurd hj (by omega), fun j hj => absurd hj (by omega), fun j hj => absurd hj (by omega), fun i j _ hj => absurd hj (by omega)⟩
theorem Encd.next (h : Encd w wr g N W k M γ) (hk : k < N)
    (hu : Upd (· = wr.heap.size) ((wr.setCell ⟨g, k, none⟩ (.slice (some ⟨wr.heap.size, 0, none⟩) W W)).alloc (.cells (madeCells #[.int .u8 0] W) 5)) w2)
    (hkd : KdKept ((wr.setCell ⟨g, k, none⟩ (.slice (some ⟨wr.heap.size, 0, none⟩) W W)).alloc (.cells (madeCells #[.int .u8 0] W) 5)) w2)
    (hr : Row w2 wr.heap.size 0 W (bs (M k))) : Encd w w2 g N W (k + 1) M (fun j => if j < k then γ j else wr.heap.size) := by
  have hs := h.below.size
  have hg := h.gk.lt
  have hlt : ∀ j, j < k → γ j < wr.heap.size := fun j hj => (h.kd j hj).lt
  have hne : ∀ j, j < k → g ≠ γ j := fun j hj => (h.gk.ne (h.kd j hj) (by decide))
  have ez : (wr.setCell ⟨g, k, none⟩ (.slice (some ⟨wr.heap.size, 0, none⟩) W W)).heap.size = wr.heap.size := Deep.nblk_setCell _ _ _
  refine ⟨?_, h.gown, hkd _ _ ((h.gk.set _ _).alloc _), ?_, fun j hj => ?_, fun j hj => ?_, fun j hj => ?_, fun i j hij hj => ?_⟩
  · exact Below.upd ((h.below.setCell h.gown _).alloc (by rw [ez]; exact hs) _) hu (fun b e => by omega) (by rw [Deep.nblk_alloc, ez]; omega)
  · have h1 := (h.outer.set hk (.slice (some ⟨wr.heap.size, 0, none⟩) W W)).alloc (.cells (madeCells #[.int .u8 0] W) 5)
    rw [Nat.zero_add] at h1
    refine (h1.upd hu fun _ => by omega).congr fun i hi => ?_
    by_cases e1 : i = k
    · subst e1; simp
    · by_cases e2 : i < k
      · simp [e1, e2, show i < k + 1 by omega]
      · simp [e1, e2, show ¬ i < k + 1 by omega]
  · by_cases e : j < k
    · simp only [if_pos e]
      refine (((h.row j e).other (a := ⟨g, k, none⟩) (hne j e) _).alloc _).upd hu fun _ => ?_
      have := hlt j e; omega
    · obtain rfl : j = k := by omega
      simp only [if_neg e]; exact hr
  · by_cases e : j < k
    · simp only [if_pos e]; exact hkd _ _ (((h.kd j e).set _ _).alloc _)
    · simp only [if_neg e]
      have := Kd.new (wr.setCell ⟨g, k, none⟩ (.slice (some ⟨wr.heap.size, 0, none⟩) W W)) (madeCells #[.int .u8 0] W) 5
      rw [ez] at this
      exact hkd _ _ this
  · by_cases e : j < k
    · simp only [if_pos e]; exact h.own j e
    · simp only [if_neg e]; exact hs
  · by_cases e : j < k
    · simp only [if_pos e, if_pos (show i < k by omega)]; exact h.up i j hij e
    · simp only [if_neg e, if_pos (show i < k by omega)]; exact hlt i (by omega)
theorem Encd.mr (h : Encd w wr g N W N M γ) : Mr w wr (.slice (some ⟨g, 0, none⟩) N N) N W M γ :=
  ⟨h.below, ⟨_, g, N, rfl, fun _ => rfl, (h.outer.rd).congr fun i hi => by simp [hi], fun _ => ⟨h.gown, h.gk⟩, Nat.le_refl _⟩, h.row, h.kd, h.own, h.up⟩
end

/-- While a shard is worked out: j data shards are in. -/
structure Adding (wo wr : World) (r W j : Nat) (c : Nat → UInt8) (X : Nat → Nat → UInt8) : Prop where
  upd : Upd (· = r) wo wr
  kd : KdKept wo wr
  row : Row wr r 0 W (bs (fun t => dot j c (fun q => X q t)))
theorem Adding.next {wo wr w2 : World} {r W j : Nat} {c : Nat → UInt8} {X : Nat → Nat → UInt8} (h : Adding wo wr r W j c X)
    (ha : Added wr w2 r W (fun t => if t < W then dot j c (fun q => X q t) ^^^ Gf.mul (c j) (X j t) else dot j c (fun q => X q t))) : Adding wo w2 r W (j + 1) c X :=
  ⟨h.upd.trans ha.upd fun _ e _ => e, h.kd.trans ha.kd, ha.row.congr fun t ht => by simp only [bs, if_pos ht]; rw [dot_succ]⟩
theorem Adding.drewN {wo wr : World} {r W j : Nat} {c : Nat → UInt8} {X : Nat → Nat → UInt8} (h : Adding wo wr r W j c X) (q : Nat) : Adding wo (wr.drewN q) r W j c X :=
  ⟨h.upd.drewN q, h.kd.drewN q, h.row.drewN q⟩
end Go.Proofs.YthaamnjpjkkolabDoor
