import Derived.Test.YthaamnjpjkkolabDoorSteps
import Derived.Test.YthaamnjpjkkolabDoorRws
/- How long the shards are that a program loads: plain, and the program's 'length'. -/
namespace Go.Proofs.YthaamnjpjkkolabDoor
open Go.RowKit Go.Proofs
set_option maxRecDepth 100000
set_option linter.unusedVariables false

/-- The length of the first shard that is loaded within k steps; -1: none is. -/
def firstN (S : Nat → Stp) (hs : Nat → Nat) : Nat → Int
  | 0 => -1
  | k + 1 => if (S k).k.toNat = 0 ∧ firstN S hs k < 0 then (hs (S k).b.toNat : Int) else firstN S hs k
theorem firstN_ge (S : Nat → Stp) (hs : Nat → Nat) : ∀ k, -1 ≤ firstN S hs k
  | 0 => by simp [firstN]
  | k + 1 => by unfold firstN; split; omega; exact firstN_ge S hs k
/-- All that are loaded within k steps are there, and of one length. -/
def LoadTo (S : Nat → Stp) (here : Nat → Prop) (hs : Nat → Nat) (k : Nat) : Prop :=
  ∀ i, i < k → (S i).k.toNat = 0 → here (S i).b.toNat ∧ (hs (S i).b.toNat : Int) = firstN S hs (i + 1) ∧ firstN S hs (i + 1) ≤ 4096
theorem LoadTo.next {S : Nat → Stp} {here : Nat → Prop} {hs : Nat → Nat} {k : Nat} (h : LoadTo S here hs k) (h' : (S k).k.toNat = 0 → here (S k).b.toNat ∧ (hs (S k).b.toNat : Int) = firstN S hs (k + 1) ∧ firstN S hs (k + 1) ≤ 4096) : LoadTo S here hs (k + 1) := fun i hi => by
  by_cases e : i = k
  · subst e; exact h'
  · exact h i (by omega)
theorem LoadTo.le {S : Nat → Stp} {here : Nat → Prop} {hs : Nat → Nat} {k n : Nat} (h : LoadTo S here hs n) (hk : k ≤ n) : LoadTo S here hs k := fun i hi => h i (by omega)

theorem firstN_max {S : Nat → Stp} {here : Nat → Prop} {hs : Nat → Nat} : ∀ {k : Nat}, LoadTo S here hs k → firstN S hs k ≤ 4096
  | 0, _ => by simp [firstN]
  | k + 1, h => by
    by_cases e : (S k).k.toNat = 0
    · exact (h k (by omega) e).2.2
    · unfold firstN; rw [if_neg (by omega)]; exact firstN_max (h.le (by omega))
/-- Once known, the length stays. -/
theorem firstN_stays {S : Nat → Stp} {hs : Nat → Nat} {k : Nat} (h : 0 ≤ firstN S hs k) : ∀ {n : Nat}, k ≤ n → firstN S hs n = firstN S hs k
  | 0, hk => by rw [show k = 0 by omega]
  | n + 1, hk => by
    by_cases e : k = n + 1
    · rw [e]
    · have ih := firstN_stays h (n := n) (by omega)
      rw [firstN, if_neg (by omega), ih]
theorem load_len {S : Nat → Stp} {here : Nat → Prop} {hs : Nat → Nat} {n i : Nat} (h : LoadTo S here hs n) (hi : i < n) (hk : (S i).k.toNat = 0) : (hs (S i).b.toNat : Int) = max (firstN S hs n) 0 := by
  have h1 := (h i hi hk).2.1
  have h2 := firstN_stays (S := S) (hs := hs) (k := i + 1) (by omega) (show i + 1 ≤ n from hi)
  omega

/-- The lengths of shards that are not there play no part. -/
theorem load_same {S : Nat → Stp} {here : Nat → Prop} {hs hs' : Nat → Nat} (he : ∀ j, here j → hs j = hs' j) : ∀ {k : Nat}, LoadTo S here hs k → LoadTo S here hs' k ∧ firstN S hs' k = firstN S hs k
  | 0, _ => ⟨fun i hi => absurd hi (by omega), rfl⟩
  | k + 1, h => by
    obtain ⟨h1, h2⟩ := load_same he (h.le (Nat.le_succ k))
    have e : firstN S hs' (k + 1) = firstN S hs (k + 1) := by
      unfold firstN
      rw [h2]
      by_cases c : (S k).k.toNat = 0 ∧ firstN S hs k < 0
      · rw [if_pos c, if_pos c, he _ (h k (by omega) c.1).1]
      · rw [if_neg c, if_neg c]
    refine ⟨h1.next fun hk => ?_, e⟩
    obtain ⟨a, b, c⟩ := h k (by omega) hk
    rw [e, ← he _ a]
    exact ⟨a, b, c⟩

def LengthIs (w : World) (n : Nat) (S : Nat → Stp) (here : Nat → Prop) (hs : Nat → Nat) (e : Ending) (w' : World) : Prop :=
  (LoadTo S here hs n ∧ e = .returned (.tuple #[I (max (firstN S hs n) 0), .nilIface]) ∨ ¬ LoadTo S here hs n ∧ e = .returned (.tuple #[I 0, .iface 33 (I 2)])) ∧ Below w.heap.size w w'

/-- A list of shards, some of which are not there. -/
structure Shs (w : World) (a : Option Addr) (b o m c : Nat) (T : Nat → Sl) : Prop where
  addr : 0 < m → a = some ⟨b, o, none⟩
  out : Rd w b o m (fun i => (T i).v)
  ok : ∀ i, i < m → (T i).a ≠ none → (T i).a = some ⟨(T i).b, (T i).o, none⟩ ∧ Rd w (T i).b (T i).o (T i).n (bs (T i).x)
  nil : ∀ i, i < m → (T i).n ≤ 100000
  cap : m ≤ c
  max : c ≤ 9223372036854775807
theorem Shs.later {w w' : World} {a : Option Addr} {b o m c : Nat} {T : Nat → Sl} (h : Shs w a b o m c T) (hb : Below w.heap.size w w') : Shs w' a b o m c T :=
  ⟨h.addr, h.out.later hb, fun i hi ha => ⟨(h.ok i hi ha).1, (h.ok i hi ha).2.later hb⟩, h.nil, h.cap, h.max⟩

def hereS (T : Nat → Sl) (j : Nat) : Prop := (T j).a ≠ none
def lenS (T : Nat → Sl) (j : Nat) : Nat := (T j).n

theorem inil (a : Option Addr) (n c : Nat) (w : World) : (binOp .eql 28 (.slice a n c) (.slice none 0 0)).run Tryd.prog w = .ok (.bool a.isNone) w :=
  Lib.run_eql_slice_nil w 28 5 a n c 0 0 Tryd.underlying28

set_option maxHeartbeats 4000000 in
theorem length_any (a a' : Option Addr) (b b' o o' n m c c' : Nat) (S : Nat → Stp) (T : Nat → Sl) (regs : Int) (w : World) (h : Stps w a b o n c fun i => sc (S i)) (hT : Shs w a' b' o' m c' T) (hok : OkTo regs n S (m : Int)) :
    Calls Tryd.prog 53 #[.agg #[I regs, .slice a n c], .slice a' m c'] w (LengthIs w n S (hereS T) (lenS T)) := by
  have HS := Lib.hid h
  have HT := Lib.hid hT
  have HO := Lib.hid hok
  have hcap := h.cap; have hmax := h.max; have hc2 := hT.cap; have hm2 := hT.max
  clear h hT hok
  have hnil := fun (a : Option Addr) (n c : Nat) (w : World) => inil a n c w
  have HB := Lib.hid ((Below.refl w.heap.size w).alloc (Nat.le_refl _) (.cells #[I regs, .slice a n c] 39))
  go_enter Tryd.func53, Tryd.ntmps53
  go_wp2_with fail
  go_loopg [6, 13] n (fun g v i wr => ∃ k : Nat, g = n - k ∧ k ≤ n ∧ i = I k ∧ v = I (firstN S (lenS T) k) ∧ Below w.heap.size w wr ∧ LoadTo S (hereS T) (lenS T) k)
  case atStart => exact ⟨0, rfl, by omega, rfl, rfl, HB.out, fun i hi => absurd hi (by omega)⟩
  case round =>
    obtain ⟨k, rfl, hk, rfl, rfl, hb, hl⟩ := hrel
    have HB1 := Lib.hid hb
    have HL := Lib.hid hl
    have hsz : w.heap.size ≤ wr.heap.size := hb.size
    have hf1 := firstN_ge S (lenS T) k
    have hf2 := firstN_max hl
    clear hb hl
    by_cases hlt : k < n
    · obtain rfl := HS.out.addr (by omega)
      have hat := (HS.out.later HB1.out).rd.at4 hlt
      have hst := HO.out k hlt
      have HBAD := Lib.hid (fun (h : LoadTo S (hereS T) (lenS T) n) => h k hlt)
      have HNX := Lib.hid (fun (h : ¬ ((S k).k.toNat = 0 ∧ firstN S (lenS T) k < 0)) => (show firstN S (lenS T) (k + 1) = firstN S (lenS T) k by rw [firstN, if_neg h]))
      have HNY := Lib.hid (fun (h : (S k).k.toNat = 0 ∧ firstN S (lenS T) k < 0) => (show firstN S (lenS T) (k + 1) = (lenS T (S k).b.toNat : Int) by rw [firstN, if_pos h]))
      obtain ⟨s, hs⟩ : ∃ s, s = S k := ⟨_, rfl⟩
      rw [← hs] at hat hst HBAD HNX HNY
      have c0 : wr.cell? ⟨b, o + k * 4, none⟩ = some (B s.k) := hat.c0
      have c1 : wr.cell? ⟨b, o + k * 4 + 1, none⟩ = some (I s.a) := hat.c1
      have c3 : wr.cell? ⟨b, o + k * 4 + 3, none⟩ = some (B s.c) := hat.c3
      have c2 : wr.cell? ⟨b, o + k * 4 + 2, none⟩ = some (I s.b) := hat.c2
      have HSk := Lib.hid hs
      have HYES := Lib.hid (fun h => HL.out.next (hs ▸ h))
      clear hs hat
      have HN := Lib.hid (HB1.out.alloc hsz (.cells #[B s.k, I s.a, I s.b, B s.c] 84))
      by_cases k0 : s.k.toNat = 0
      case neg =>
        have t1 := ntrue (a := (s.k.toNat : Int)) (b := 0) (by omega)
        have HE := Lib.hid (HNX.out fun h => k0 h.1)
        have HY := Lib.hid (HYES.out fun h => absurd h k0)
        clear k0
        go_wp2_with fail
        go_roundg (n - (k + 1))
        case measure => omega
        case rel => exact ⟨k + 1, rfl, by omega, by go_num, by rw [HE.out], HN.out, HY.out⟩
      have t1 := nfalse (a := (s.k.toNat : Int)) (b := 0) (by omega)
      have HK0 := Lib.hid k0
      have hsb : 0 ≤ s.b ∧ s.b < (m : Int) := by unfold OkStep at hst; omega
      obtain ⟨j, hj⟩ : ∃ j : Nat, s.b = (j : Int) := ⟨s.b.toNat, by omega⟩
      have hjm : j < m := by omega
      have hsbj : s.b.toNat = j := by omega
      rw [hsbj] at HBAD HNY HYES
      have HSB := Lib.hid hj
      rw [hj] at c2
      have HN := Lib.hid (HB1.out.alloc hsz (.cells #[B s.k, I s.a, I (j : Int), B s.c] 84))
      clear k0 hst hsb hj hsbj
      obtain rfl := HT.out.addr (by omega)
      have hT1 := HT.out.later HB1.out
      have d0 : wr.cell? ⟨b', o' + j, none⟩ = some (.slice (T j).a (T j).n (T j).c) := hT1.out j hjm
      have hn1 : (T j).n ≤ 100000 := HT.out.nil j hjm
      have hbl : b' < wr.heap.size := World.block_lt_of_cell? _ _ d0
      clear hT1
      have HNj := Lib.hid (show lenS T j = (T j).n from rfl)
      have HHj := Lib.hid (show hereS T j ↔ (T j).a ≠ none from Iff.rfl)
      generalize (T j).n = nj at *
      generalize (T j).c = cj at *
      by_cases hF : firstN S (lenS T) k < 0
      · have hFb := decide_eq_true hF
        have HE := Lib.hid (HNY.out ⟨HK0.out, hF⟩)
        rw [HNj.out] at HE
        cases hA : (T j).a with
        | none =>
          have HA := Lib.hid hA
          rw [hA] at d0
          clear hA
          go_wp2_with fail
          go_ret2
          exact ⟨.inr ⟨fun h => (HHj.out.1 (HBAD.out h HK0.out).1) HA.out, rfl⟩, HN.out⟩
        | some x =>
          have HA := Lib.hid hA
          rw [hA] at d0
          clear hA
          have hnn : ((nj : Int) != (nj : Int)) = false := by simp
          by_cases h4 : 4096 < nj
          · go_wp2_with fail
            go_ret2
            exact ⟨.inr ⟨fun h => by have h1 := (HBAD.out h HK0.out).2.2; rw [HE.out] at h1; omega, rfl⟩, HN.out⟩
          · have HHy := Lib.hid (HHj.out.2 (by rw [HA.out]; exact fun h => by cases h))
            go_wp2_with fail
            go_roundg (n - (k + 1))
            case measure => omega
            case rel => exact ⟨k + 1, rfl, by omega, by go_num, by rw [HE.out], HN.out, HYES.out fun _ => ⟨HHy.out, by rw [HE.out, HNj.out], by rw [HE.out]; omega⟩⟩
      · have hFb := decide_eq_false hF
        have HE := Lib.hid (HNX.out fun h => hF h.2)
        cases hA : (T j).a with
        | none =>
          have HA := Lib.hid hA
          rw [hA] at d0
          clear hA
          go_wp2_with fail
          go_ret2
          exact ⟨.inr ⟨fun h => (HHj.out.1 (HBAD.out h HK0.out).1) HA.out, rfl⟩, HN.out⟩
        | some x =>
          have HA := Lib.hid hA
          rw [hA] at d0
          clear hA
          by_cases hne : (nj : Int) = firstN S (lenS T) k
          · have hnn := nfalse hne
            have HQ := Lib.hid hne
            clear hne
            have HHy := Lib.hid (HHj.out.2 (by rw [HA.out]; exact fun h => by cases h))
            go_wp2_with fail
            go_roundg (n - (k + 1))
            case measure => omega
            case rel => exact ⟨k + 1, rfl, by omega, by go_num, by rw [HE.out], HN.out, HYES.out fun _ => ⟨HHy.out, by rw [HE.out, HNj.out, HQ.out], by rw [HE.out]; omega⟩⟩
          · have hnn := ntrue hne
            have HQ := Lib.hid hne
            clear hne
            go_wp2_with fail
            go_ret2
            exact ⟨.inr ⟨fun h => by have h1 := (HBAD.out h HK0.out).2.1; rw [HE.out, HNj.out] at h1; exact HQ.out h1, rfl⟩, HN.out⟩
    · obtain rfl : n = k := by omega
      by_cases hF : firstN S (lenS T) n < 0
      · have hmx := Lib.hid (show max (firstN S (lenS T) n) 0 = 0 by omega)
        go_wp2_with fail
        go_ret2
        exact ⟨.inl ⟨HL.out, by rw [hmx.out]; first | rfl | (simp; done) | (simp; omega)⟩, HB1.out⟩
      · have hmx := Lib.hid (show max (firstN S (lenS T) n) 0 = firstN S (lenS T) n by omega)
        go_wp2_with fail
        go_ret2
        exact ⟨.inl ⟨HL.out, by rw [hmx.out]; first | rfl | (simp; done) | (simp; omega)⟩, HB1.out⟩
end Go.Proofs.YthaamnjpjkkolabDoor
