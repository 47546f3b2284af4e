import Derived.Test.YthaamnjpjkkolabDoorHeap
/- The law's small helpers: same, roomy, still. -/
namespace Go.Proofs.YthaamnjpjkkolabDoor
open Go.RowKit Go.Proofs
set_option maxRecDepth 100000
set_option linter.unusedVariables false

/-- The bytes of a row. -/
abbrev bs (x : Nat → UInt8) : Nat → Value := fun i => B (x i)

/-- Are they the same up to k? -/
def sameTo (x y : Nat → UInt8) (k : Nat) : Prop := ∀ i < k, x i = y i
theorem sameTo_next {x y : Nat → UInt8} {k : Nat} (h : sameTo x y k) (e : x k = y k) : sameTo x y (k + 1) := by
  intro i hi
  by_cases h' : i = k
  · subst h'; exact e
  · exact h i (by omega)

def sameB (n m : Nat) (x y : Nat → UInt8) : Bool := n == m && (List.range n).all fun i => x i == y i
theorem sameB_iff {n m : Nat} {x y : Nat → UInt8} : sameB n m x y = true ↔ n = m ∧ sameTo x y n := by simp [sameB, sameTo]
theorem sameB_len {n m : Nat} {x y : Nat → UInt8} (h : n ≠ m) : sameB n m x y = false := by
  rw [Bool.eq_false_iff]; exact fun e => h (sameB_iff.1 e).1
theorem sameB_no {n k : Nat} {x y : Nat → UInt8} (hk : k < n) (h : x k ≠ y k) : sameB n n x y = false := by
  rw [Bool.eq_false_iff]; exact fun e => h ((sameB_iff.1 e).2 k hk)
theorem sameB_yes {n : Nat} {x y : Nat → UInt8} (h : sameTo x y n) : sameB n n x y = true := sameB_iff.2 ⟨rfl, h⟩
theorem ret_bool {a b : Bool} (h : a = b) : Ending.returned (.bool a) = .returned (.bool b) := by rw [h]
theorem byte_ne {x y : UInt8} (h : (((x.toNat : Int)) != (y.toNat : Int)) = true) : x ≠ y := by
  rintro rfl; simp at h
theorem byte_eq {x y : UInt8} (h : (((x.toNat : Int)) != (y.toNat : Int)) = false) : x = y := by
  simp at h; exact UInt8.toNat.inj (by omega)

set_option maxHeartbeats 400000 in
theorem same_any (a a' : Option Addr) (b o b' o' n n' c c' : Nat) (x y : Nat → UInt8) (w : World)
    (ha : 0 < n → a = some ⟨b, o, none⟩) (ha' : 0 < n' → a' = some ⟨b', o', none⟩) (hx : Rd w b o n (bs x)) (hy : Rd w b' o' n' (bs y)) (hn : n ≤ 9223372036854775807) (hn' : n' ≤ 9223372036854775807) :
    Calls Tryd.prog 26 #[.slice a n c, .slice a' n' c'] w fun e w' => e = .returned (.bool (sameB n n' x y)) ∧ ∃ k, w' = w.drewN k := by
  have HX := Lib.hid hx
  have HY := Lib.hid hy
  clear hx hy
  by_cases hne : n = n'
  · subst hne
    go_enter Tryd.func26, Tryd.ntmps26
    go_wp2
    go_loopw [5] (fun i wr => ∃ k q : Nat, k ≤ n ∧ i = I k ∧ sameTo x y k ∧ wr = w.drewN q) (fun i _ => n - (intOf i).toNat)
    case atStart => exact ⟨0, 0, by omega, rfl, fun i hi => absurd hi (by omega), rfl⟩
    case round =>
      obtain ⟨k, q, hk, rfl, hs, rfl⟩ := hrel
      have HS := Lib.hid hs
      clear hs
      by_cases hlt : k < n
      · obtain rfl := ha (by omega)
        obtain rfl := ha' (by omega)
        have c1 := HX.out k hlt
        have c2 := HY.out k hlt
        go_wp2
        go_quiet (fail)
        go_wp2
        · go_ret
          exact ⟨ret_bool (sameB_no hlt (byte_ne ‹_›)).symm, q + nq, World.drewN_drewN _ _ _⟩
        · go_roundw
          case rel => exact ⟨k + 1, q + nq, by omega, by go_num, sameTo_next HS.out (byte_eq ‹_›), rfl⟩
          case measure => simp [intOf]; omega
      · go_wp2
        go_ret
        obtain rfl : k = n := by omega
        exact ⟨ret_bool (sameB_yes HS.out).symm, _, rfl⟩
  · go_enter Tryd.func26, Tryd.ntmps26
    go_wp2
    go_ret
    exact ⟨ret_bool (sameB_len hne).symm, 0, rfl⟩

/-- What roomy makes: the bytes, then 71 and 72. -/
def roomX (n : Nat) (x : Nat → UInt8) : Nat → UInt8 := fun i => if i < n then x i else if i = n then 71 else 72

/-- A byte turned within a row. -/
theorem Row.set8 {w : World} {g n k : Nat} {z : Nat → UInt8} (h : Row w g 0 n (bs z)) (hk : k < n) {v : Int} (u : UInt8) (hv : v = (u.toNat : Int)) :
    Row (w.setCell ⟨g, k, none⟩ (.int .u8 v)) g 0 n (bs (fun j => if j = k then u else z j)) := by
  have := h.set hk (.int .u8 v)
  rw [Nat.zero_add] at this
  refine this.congr fun j _ => ?_
  by_cases e : j = k <;> simp [e, bs, B, hv]

theorem roomy_done {w w1 : World} {n : Nat} {x : Nat → UInt8} {ob : Obj}
    (hu : Upd (· = w.heap.size) (w.alloc ob) w1) (hz : w1.heap.size = (w.alloc ob).heap.size)
    (hr : Row w1 w.heap.size 0 (n + 2) fun i => if i < n then bs x i else .int .u8 0) (hk : Kd w1 w.heap.size 5) {w2 : World}
    (e : w2 = (w1.setCell ⟨w.heap.size, n, none⟩ (.int .u8 71)).setCell ⟨w.heap.size, n + 1, none⟩ (.int .u8 72)) :
    Below w.heap.size w w2 ∧ w2.heap.size = w.heap.size + 1 ∧ Row w2 w.heap.size 0 (n + 2) (bs (roomX n x)) ∧ Kd w2 w.heap.size 5 := by
  subst e
  refine ⟨?_, ?_, ?_, (hk.set _ _).set _ _⟩
  · have h1 := ((hu.setCell (a := ⟨w.heap.size, n, none⟩) (fun _ => rfl) (.int .u8 71)).setCell (a := ⟨w.heap.size, n + 1, none⟩) (fun _ => rfl) (.int .u8 72))
    exact Below.upd ((Below.refl w.heap.size w).alloc (Nat.le_refl _) ob) h1 (fun b hb => by omega) (by rw [Deep.nblk_alloc]; omega)
  · rw [Deep.nblk_setCell, Deep.nblk_setCell, hz, Deep.nblk_alloc]
  · have h1 := hr.set (i := n) (by omega) (.int .u8 71)
    have h2 := h1.set (i := n + 1) (by omega) (.int .u8 72)
    simp only [Nat.zero_add] at h2
    refine h2.congr fun i hi => ?_
    unfold roomX bs
    by_cases e1 : i = n + 1
    · subst e1; simp [show ¬ n + 1 < n by omega]
    · by_cases e2 : i = n
      · subst e2; simp
      · simp [e1, e2, show i < n by omega]

set_option maxHeartbeats 400000 in
theorem roomy_any (a : Option Addr) (b o n c : Nat) (x : Nat → UInt8) (w : World)
    (ha : 0 < n → a = some ⟨b, o, none⟩) (hx : Rd w b o n (bs x)) (hn : n ≤ 100000) (hc : n ≤ c) :
    Calls Tryd.prog 32 #[.slice a n c] w fun e w' => e = .returned (.slice (some ⟨w.heap.size, 0, none⟩) n (n + 2)) ∧
      Below w.heap.size w w' ∧ w'.heap.size = w.heap.size + 1 ∧ Row w' w.heap.size 0 (n + 2) (bs (roomX n x)) ∧ Kd w' w.heap.size 5 := by
  have HX := Lib.hid hx
  clear hx
  have hmk := make_bytes ((n : Int) + 2) (by omega) (by omega)
  have et : ((n : Int) + 2).toNat = n + 2 := by omega
  rw [et] at hmk
  clear et
  go_enter Tryd.func32, Tryd.ntmps32
  go_wp2_with (refine wpList_copy_fn rfl (.tmp 10) (.tmp 11) 28 28 rfl 5 Tryd.underlying28 sizeU8 _ _ _ _ _ _ rfl rfl n w.heap.size 0 (n + 2) b o (fun _ => .int .u8 0) (bs x) (by show n = min n (n + 2); omega) (by omega) (Row.new _ _ _ _) (HX.out.alloc _) (fun _ => rfl) ha (fun _ _ => rfl) ?_; intro w1 hu1 hz1 hk1 hr1; have HK := Lib.hid (hk1 _ 5 (Kd.new w _ _)); clear hk1; have c1 := hr1.cell n (by omega); have f1 := hr1.free n (by omega); have c2 := hr1.cell (n + 1) (by omega); have f2 := hr1.free (n + 1) (by omega); simp only [Nat.zero_add] at c1 c2 f1 f2; have HR := Lib.hid hr1; have HU := Lib.hid hu1; have HZ := Lib.hid hz1; clear hr1 hu1 hz1)
  go_ret
  exact ⟨rfl, roomy_done HU.out HZ.out HR.out HK.out rfl⟩

set_option maxHeartbeats 400000 in
theorem still_any (a : Option Addr) (g b o n c : Nat) (x : Nat → UInt8) (w : World)
    (ha : 0 < n → a = some ⟨b, o, none⟩) (hx : Rd w b o n (bs x)) (hr : Row w g 0 (n + 2) (bs (roomX n x))) (hn : n ≤ 100000) :
    Calls Tryd.prog 34 #[.slice (some ⟨g, 0, none⟩) n (n + 2), .slice a n c] w fun e w' => e = .returned (.bool true) ∧ Upd (· = g) w w' ∧ KdKept w w' := by
  have HX := Lib.hid hx
  have HR := Lib.hid hr
  have hsame := Lib.hid (fun w (hx : Rd w b o n (bs x)) (hr : Rd w g 0 n (bs (roomX n x))) => (same_any (some ⟨g, 0, none⟩) a g 0 b o n n (n + 2) c (roomX n x) x w (fun _ => rfl) ha hr hx (by omega) (by omega)))
  have hyes := Lib.hid (show sameB n n (roomX n x) x = true from sameB_yes fun i hi => by simp [roomX, hi])
  have c1 : w.cell? ⟨g, n, none⟩ = some (.int .u8 71) := by have := hr.cell n (by omega); simp [roomX, bs] at this; exact this
  have c2 : w.cell? ⟨g, n + 1, none⟩ = some (.int .u8 72) := by have := hr.cell (n + 1) (by omega); simp [roomX, bs, show ¬ n + 1 < n by omega] at this; exact this
  clear hx hr ha
  go_enter Tryd.func34, Tryd.ntmps34
  go_wp2_with (go_at_call 26; refine (hsame.out _ ?h1 ?h2).mono ?_; exact HX.out; exact HR.out.rd.take (by omega); rw [hyes.out]; rintro e w' ⟨rfl, q, rfl⟩)
  go_loopw [8] (fun i wr => ∃ k : Nat, k ≤ n + 2 ∧ i = I k ∧ Upd (· = g) w wr ∧ KdKept w wr ∧ ∃ z, Row wr g 0 (n + 2) (bs z)) (fun i _ => n + 2 - (intOf i).toNat)
  case atStart => exact ⟨0, by omega, rfl, (Upd.refl _ _).drewN _, (KdKept.refl _).drewN _, _, HR.out.drewN _⟩
  case round =>
    obtain ⟨k, hk, rfl, hu, hkd, z, hz⟩ := hrel
    have HU := Lib.hid hu
    have HKD := Lib.hid hkd
    clear hkd
    have HZ := Lib.hid hz
    clear hu hz
    by_cases hlt : k < n + 2
    · have d1 := HZ.out.cell k hlt
      have d2 := HZ.out.free k hlt
      simp only [Nat.zero_add] at d1 d2
      go_wp2
      go_roundw
      case rel => exact ⟨k + 1, by omega, by go_num, HU.out.setCell (fun _ => rfl) _, HKD.out.set _ _, _, Row.set8 HZ.out hlt (z k ^^^ 85) (xor8 (z k) 85)⟩
      case measure => simp [intOf]; omega
    · go_wp2
      go_ret
      exact ⟨rfl, HU.out, HKD.out⟩
end Go.Proofs.YthaamnjpjkkolabDoor
