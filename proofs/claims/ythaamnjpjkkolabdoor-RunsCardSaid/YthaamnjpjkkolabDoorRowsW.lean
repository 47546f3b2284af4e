import Derived.Test.YthaamnjpjkkolabDoorSmall
import Derived.Test.YthaamnjpjkkolabDoorVec
/- Lists of bytes: weight, roomies, allStill. -/
namespace Go.Proofs.YthaamnjpjkkolabDoor
open Go.RowKit Go.Proofs
set_option maxRecDepth 100000
set_option linter.unusedVariables false

/-- A slice of bytes: where it lies, how long it is, what it holds. -/
structure Sl where
  a : Option Addr
  b : Nat
  o : Nat
  n : Nat
  c : Nat
  x : Nat → UInt8

abbrev Sl.v (s : Sl) : Value := .slice s.a s.n s.c

structure Sl.ok (s : Sl) (w : World) : Prop where
  addr : 0 < s.n → s.a = some ⟨s.b, s.o, none⟩
  rd : Rd w s.b s.o s.n (bs s.x)
  cap : s.n ≤ s.c
  max : s.c ≤ 140737488355328

/-- All of so many rows together. -/
def wt (S : Nat → Sl) : Nat → Nat
  | 0 => 0
  | k + 1 => wt S k + (S k).n
theorem wt_mono (S : Nat → Sl) {i k : Nat} (h : i < k) : (S i).n + wt S i ≤ wt S k := by
  induction k with
  | zero => omega
  | succ k ih =>
    simp only [wt]
    by_cases e : i = k
    · subst e; omega
    · have := ih (by omega); omega
theorem wt_le (S : Nat → Sl) {i k : Nat} (h : i < k) : (S i).n ≤ wt S k := by have := wt_mono S h; omega

def Weighed (n : Nat) (S : Nat → Sl) (w : World) (e : Ending) (w' : World) : Prop := ∃ r : Int, e = .returned (I r) ∧ w = w' ∧ 0 ≤ r ∧ (r ≤ 100000 → n + wt S n ≤ 100000)

theorem weighed_all {n : Nat} {S : Nat → Sl} {w : World} {k : Nat} (hk : n ≤ k) (h' : k ≤ n) : Weighed n S w (.returned (I ((n : Int) + (wt S k : Int)))) w := by
  obtain rfl : k = n := by omega
  exact ⟨_, rfl, rfl, by omega, by omega⟩
theorem weighed_big {n : Nat} {S : Nat → Sl} {w : World} {r : Int} (h : 100000 < r) : Weighed n S w (.returned (I r)) w := ⟨_, rfl, rfl, by omega, by omega⟩

set_option maxHeartbeats 400000 in
theorem weight_any (a : Option Addr) (b o n c : Nat) (S : Nat → Sl) (w : World) (ha : 0 < n → a = some ⟨b, o, none⟩)
    (hout : Rd w b o n (fun i => (S i).v)) (hcap : ∀ i, i < n → (S i).n ≤ 140737488355328) (hn : n ≤ maxLen) :
    Calls Tryd.prog 13 #[.slice a n c] w (Weighed n S w) := by
  have HO := Lib.hid hout
  have HC := Lib.hid hcap
  clear hout hcap
  unfold maxLen at hn
  by_cases hbig : 100000 < n
  · go_enter Tryd.func13, Tryd.ntmps13
    go_wp2
    go_ret
    exact weighed_big (by omega)
  · go_enter Tryd.func13, Tryd.ntmps13
    go_wp2
    go_loop [3, 4] (fun s i => ∃ k : Nat, k ≤ n ∧ i = I k ∧ s = I ((n : Int) + (wt S k : Int)) ∧ (k < n → True)) (fun _ i => n - (intOf i).toNat)
    case atStart => exact ⟨0, by omega, rfl, by simp [wt], fun _ => trivial⟩
    case round =>
      obtain ⟨k, hk, rfl, rfl, _⟩ := hrel
      by_cases hlt : k < n
      · by_cases hs : n + wt S k ≤ 100000
        · obtain rfl := ha (by omega)
          have c1 : w.cell? ⟨b, o + k, none⟩ = some (.slice (S k).a (S k).n (S k).c) := HO.out k hlt
          have hm := HC.out k hlt
          have hw := Lib.hid (show wt S (k + 1) = wt S k + (S k).n from rfl)
          generalize wt S k = t at *
          go_wp2
          go_round
          case rel => exact ⟨k + 1, by omega, by go_num, by rw [hw.out]; go_num, fun _ => trivial⟩
          case measure => simp [intOf]; omega
        · go_wp2
          go_ret
          exact weighed_big (by omega)
      · go_wp2
        go_ret
        exact weighed_all (by omega) hk

theorem Sl.ok.later {s : Sl} {w w' : World} (h : s.ok w) (hb : Below w.heap.size w w') : s.ok w' := ⟨h.addr, h.rd.later hb, h.cap, h.max⟩

/-- The rows that roomies made, k of them: blocks of the call's own, from B on, one behind the other. -/
structure Rooms (w : World) (B k : Nat) (S : Nat → Sl) (β : Nat → Nat) : Prop where
  row : ∀ j, j < k → Row w (β j) 0 ((S j).n + 2) (bs (roomX (S j).n (S j).x))
  kd : ∀ j, j < k → Kd w (β j) 5
  own : ∀ j, j < k → B ≤ β j
  up : ∀ i j, i < j → j < k → β i < β j

theorem Rooms.next {w w1 w2 : World} {B k : Nat} {S : Nat → Sl} {β : Nat → Nat} {v : Value} (h : Rooms w B k S β) (hB : B ≤ w.heap.size)
    (hb : Below w.heap.size w w1) (hz : w1.heap.size = w.heap.size + 1) (hr : Row w1 w.heap.size 0 ((S k).n + 2) (bs (roomX (S k).n (S k).x))) (hk : Kd w1 w.heap.size 5)
    (hu : Upd (fun b => some b = v.ownBlock) w1 w2) (hv : ∀ t, v.ownBlock = some t → ∀ b, Kd w1 b 5 → t ≠ b) :
    Rooms w2 B (k + 1) S (fun j => if j < k then β j else w.heap.size) := by
  refine ⟨fun j hj => ?_, fun j hj => ?_, fun j hj => ?_, fun i j hij hj => ?_⟩
  · by_cases e : j < k
    · simp only [if_pos e]
      exact ((h.row j e).later hb).upd hu fun _ hg => hv _ hg.symm _ ((h.kd j e).later hb) rfl
    · obtain rfl : j = k := by omega
      simp only [if_neg e]
      exact hr.upd hu fun _ hg => hv _ hg.symm _ hk rfl
  · by_cases e : j < k
    · simp only [if_pos e]
      exact ((h.kd j e).later hb).upd hu fun hg => hv _ hg.symm _ ((h.kd j e).later hb) rfl
    · simp only [if_neg e]
      exact hk.upd hu fun hg => hv _ hg.symm _ hk rfl
  · by_cases e : j < k
    · simp only [if_pos e]; exact h.own j e
    · simp only [if_neg e]; exact hB
  · by_cases e : j < k
    · simp only [if_pos e, if_pos (show i < k by omega)]; exact h.up i j hij e
    · simp only [if_neg e, if_pos (show i < k by omega)]; exact (h.kd i (by omega)).lt

def Roomies (w : World) (n : Nat) (S : Nat → Sl) (e : Ending) (w' : World) : Prop :=
  ∃ v β, e = .returned v ∧ Below w.heap.size w w' ∧ Vc w' w.heap.size 28 v n (fun j => .slice (some ⟨β j, 0, none⟩) (S j).n ((S j).n + 2)) ∧ Rooms w' w.heap.size n S β

set_option maxHeartbeats 400000 in
theorem roomies_any (a : Option Addr) (b o n c : Nat) (S : Nat → Sl) (w : World) (ha : 0 < n → a = some ⟨b, o, none⟩)
    (hout : Rd w b o n (fun i => (S i).v)) (hok : ∀ i, i < n → (S i).ok w) (hs : ∀ i, i < n → (S i).n ≤ 100000) (hn : n ≤ 100000) :
    Calls Tryd.prog 14 #[.slice a n c] w (Roomies w n S) := by
  have HO := Lib.hid hout
  have HK := Lib.hid hok
  have HS := Lib.hid hs
  clear hout hok hs
  go_enter Tryd.func14, Tryd.ntmps14
  go_wp2
  go_loopw [3, 4] (fun v i wr => ∃ (k : Nat) (β : Nat → Nat), k ≤ n ∧ i = I k ∧ Below w.heap.size w wr ∧ Vc wr w.heap.size 28 v k (fun j => .slice (some ⟨β j, 0, none⟩) (S j).n ((S j).n + 2)) ∧ Rooms wr w.heap.size k S β) (fun _ i _ => n - (intOf i).toNat)
  case atStart => exact ⟨0, fun _ => 0, by omega, rfl, Below.refl _ _, Vc.nil _ _ _ _, ⟨fun j hj => absurd hj (by omega), fun j hj => absurd hj (by omega), fun j hj => absurd hj (by omega), fun i j _ hj => absurd hj (by omega)⟩⟩
  case round =>
    obtain ⟨k, β, hk, rfl, hb, hv, hr⟩ := hrel
    have HB := Lib.hid hb
    have HV := Lib.hid hv
    have HR := Lib.hid hr
    have hsz : w.heap.size ≤ wr.heap.size := hb.size
    clear hb hv hr
    by_cases hlt : k < n
    · obtain rfl := ha (by omega)
      have c1 : wr.cell? ⟨b, o + k, none⟩ = some (.slice (S k).a (S k).n (S k).c) := (HO.out.later HB.out) k hlt
      have hok := Lib.hid ((HK.out k hlt).later HB.out)
      have hsk := HS.out k hlt
      go_wp2_with (first | (go_at_call 32; refine (roomy_any _ (S k).b (S k).o _ _ (S k).x _ hok.out.addr hok.out.rd hsk hok.out.cap).mono ?_; rintro e w1 ⟨rfl, hb1, hz1, hr1, hk1⟩; have hsz1 : w.heap.size ≤ w1.heap.size := (by omega); have HB1 := Lib.hid hb1; have HZ1 := Lib.hid hz1; have HR1 := Lib.hid hr1; have HK1 := Lib.hid hk1; clear hb1 hz1 hr1 hk1) | (refine wpList_append_one rfl (.tmp 17) (.tmp 19) 24 rfl w.heap.size 28 (.slice none 0 0) 24 Tryd.underlying24 infoBs rfl _ k _ rfl (HV.out.later HB1.out) (.slice (some ⟨wr.heap.size, 0, none⟩) (S k).n ((S k).n + 2)) _ rfl rfl (by omega) (by omega) hsz1 ?_; intro v2 w2 hv2 hu2; have HV2 := Lib.hid hv2; have HU2 := Lib.hid hu2; clear hv2 hu2))
      go_roundw
      case rel =>
        refine ⟨k + 1, fun j => if j < k then β j else wr.heap.size, by omega, by go_num, ?_, HV2.out.congr fun j hj => ?_, ?_⟩
        · refine Below.upd (HB.out.trans (HB1.out.mono hsz)) HU2.out (fun t ht => ?_) hsz1
          exact ((HV.out.later HB1.out).lt t ht.symm).1
        · by_cases e : j < k
          · simp [e]
          · obtain rfl : j = k := by omega
            simp
        · exact HR.out.next hsz HB1.out HZ1.out HR1.out HK1.out HU2.out fun t ht b hb => (HV.out.later HB1.out).block_ne hb (by decide) t ht
      case measure => simp [intOf]; omega
    · go_wp2
      go_ret
      obtain rfl : k = n := by omega
      exact ⟨_, β, rfl, HB.out, HV.out, HR.out⟩

theorem mixed : Tryd.prog.follows .mixedOrders = true := by kernel_rfl

set_option maxHeartbeats 400000 in
/-- The rows that roomies made are turned, and nothing else. -/
theorem allStill_fine (v : Value) (a : Option Addr) (b o n c B : Nat) (S : Nat → Sl) (β : Nat → Nat) (w : World) (ha : 0 < n → a = some ⟨b, o, none⟩)
    (hout : Rd w b o n (fun i => (S i).v)) (hok : ∀ i, i < n → (S i).ok w) (hs : ∀ i, i < n → (S i).n ≤ 100000) (hn : n ≤ 100000)
    (hb : 0 < n → b < B) (hsb : ∀ i, i < n → 0 < (S i).n → (S i).b < B)
    (hv : Vc w B 28 v n (fun j => .slice (some ⟨β j, 0, none⟩) (S j).n ((S j).n + 2))) (hr : Rooms w B n S β) :
    Calls Tryd.prog 17 #[v, .slice a n c] w fun e w' => e = .returned (.bool true) ∧ Upd (fun t => ∃ j, j < n ∧ t = β j) w w' := by
  obtain ⟨va, vb, vc, rfl, hva, hvr, hvc, hvk, _⟩ := hv.shape
  have HO := Lib.hid hout
  have HK := Lib.hid hok
  have HS := Lib.hid hs
  have HR := Lib.hid hr
  have HV := Lib.hid hvr
  have HVK := Lib.hid hvk
  have HSB := Lib.hid hsb
  clear hout hok hs hr hvr hvk hsb hv
  go_enter Tryd.func17, Tryd.ntmps17
  go_wp2
  go_loopw [5, 6] (fun ok i wr => ∃ k : Nat, k ≤ n ∧ i = I k ∧ ok = .bool true ∧ Upd (fun t => ∃ j, j < k ∧ t = β j) w wr ∧ KdKept w wr) (fun _ i _ => n - (intOf i).toNat)
  case atStart => exact ⟨0, by omega, rfl, rfl, Upd.refl _ _, KdKept.refl _⟩
  case round =>
    obtain ⟨k, hk, rfl, rfl, hu, hkd⟩ := hrel
    have HU := Lib.hid hu
    have HKD := Lib.hid hkd
    clear hu hkd
    by_cases hlt : k < n
    · obtain rfl := ha (by omega)
      obtain rfl := hva (by omega)
      have hown : ∀ t, (∃ j, j < k ∧ t = β j) → B ≤ t := fun t ⟨j, hj, e⟩ => e ▸ HR.out.own j (by omega)
      have c1 : wr.cell? ⟨b, o + k, none⟩ = some (.slice (S k).a (S k).n (S k).c) := (HO.out.upd HU.out fun _ h => by have := hown _ h; have := hb (by omega); omega) k hlt
      have c2 : wr.cell? ⟨vb, k, none⟩ = some (.slice (some ⟨β k, 0, none⟩) (S k).n ((S k).n + 2)) := by
        have := (HV.out.upd HU.out fun hn' ⟨j, hj, e⟩ => (HVK.out hn').2.ne (HR.out.kd j (by omega)) (by decide) e).cell k hlt
        simpa using this
      have hrk := Lib.hid ((HR.out.row k hlt).upd HU.out fun _ ⟨j, hj, e⟩ => by have := HR.out.up j k hj hlt; omega)
      have hrd := Lib.hid ((HK.out k hlt).rd.upd HU.out fun h0 h => by have := hown _ h; have := HSB.out k hlt h0; omega)
      have had := (HK.out k hlt).addr
      have hsk := HS.out k hlt
      clear hown
      have HAD := Lib.hid had
      clear had
      have hcall := Lib.hid (fun w' h1 h2 => still_any (S k).a (β k) (S k).b (S k).o (S k).n (S k).c (S k).x w' HAD.out h1 h2 hsk)
      go_wp2_with fail
      go_still_tail 8, mixed
      change wpList _ _ _ _ _ (wr.drewN 1)
      go_wp2_with (go_at_call 34; refine (hcall.out _ (hrd.out.drewN 1) (hrk.out.drewN 1)).mono ?_; rintro e w1 ⟨rfl, hu1, hk1⟩; have HU1 := Lib.hid hu1; have HK1 := Lib.hid hk1; clear hu1 hk1)
      go_roundw
      case rel => exact ⟨k + 1, by omega, by go_num, rfl, ((HU.out.mono fun t _ ⟨j, hj, e⟩ => ⟨j, by omega, e⟩).drewN 1).trans HU1.out (fun t e _ => ⟨k, by omega, e⟩), (HKD.out.drewN 1).trans HK1.out⟩
      case measure => simp [intOf]; omega
    · go_wp2
      go_ret
      obtain rfl : k = n := by omega
      exact ⟨rfl, HU.out⟩

theorem allStill_any (v : Value) (a : Option Addr) (b o n c B : Nat) (S : Nat → Sl) (β : Nat → Nat) (w : World) (ha : 0 < n → a = some ⟨b, o, none⟩)
    (hout : Rd w b o n (fun i => (S i).v)) (hok : ∀ i, i < n → (S i).ok w) (hs : ∀ i, i < n → (S i).n ≤ 100000) (hn : n ≤ 100000)
    (hb : 0 < n → b < B) (hsb : ∀ i, i < n → 0 < (S i).n → (S i).b < B)
    (hv : Vc w B 28 v n (fun j => .slice (some ⟨β j, 0, none⟩) (S j).n ((S j).n + 2))) (hr : Rooms w B n S β) :
    Calls Tryd.prog 17 #[v, .slice a n c] w fun e w' => e = .returned (.bool true) ∧ Upd (fun t => B ≤ t) w w' :=
  (allStill_fine v a b o n c B S β w ha hout hok hs hn hb hsb hv hr).mono fun _ _ ⟨h1, h2⟩ => ⟨h1, h2.mono fun _ _ ⟨j, hj, e⟩ => e ▸ hr.own j hj⟩
end Go.Proofs.YthaamnjpjkkolabDoor
