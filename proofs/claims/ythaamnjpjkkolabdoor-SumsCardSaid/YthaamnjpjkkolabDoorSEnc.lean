import Derived.Test.YthaamnjpjkkolabDoorEnc
import Derived.Test.YthaamnjpjkkolabDoorRws
/- The entry point Encode. -/
namespace Go.Proofs.YthaamnjpjkkolabDoor
open Go.RowKit Go.Proofs Lin
set_option maxRecDepth 100000
set_option linter.unusedVariables false

/-- Data that can be encoded. -/
def EncTo (n : Nat) (S : Nat → Sl) : Prop := ∀ i, i < n → (S i).n = (S 0).n ∧ (S i).n ≤ 4096
theorem EncTo.next {k : Nat} {S : Nat → Sl} (h : EncTo k S) (h1 : (S k).n = (S 0).n) (h2 : (S k).n ≤ 4096) : EncTo (k + 1) S := fun i hi => by
  by_cases e : i = k
  · subst e; exact ⟨h1, h2⟩
  · exact h i (by omega)
def EncP (D n : Nat) (S : Nat → Sl) : Prop := n = D ∧ EncTo n S

def EncIs (w : World) (D L G n : Nat) (S : Nat → Sl) (e : Ending) (w' : World) : Prop :=
  EncP D n S ∧ (∃ v γ, e = .returned (.tuple #[v, .nilIface]) ∧ Mr w w' v (D + L + G) (S 0).n (encM D L (fun i => (S i).x)) γ) ∨
  ¬ EncP D n S ∧ e = .returned (.tuple #[.slice none 0 0, .iface 33 (I 2)]) ∧ Below w.heap.size w w'

theorem Mr.mono {w0 w wr : World} {v : Value} {k W : Nat} {M : Mat} {β : Nat → Nat} (h : Mr w wr v k W M β) (hb : Below w0.heap.size w0 w) : Mr w0 wr v k W M β :=
  ⟨hb.trans (h.below.mono hb.size), (let ⟨a, b, c, h1, h2, h3, h4, h5⟩ := h.sh; ⟨a, b, c, h1, h2, h3, fun h0 => ⟨Nat.le_trans hb.size (h4 h0).1, (h4 h0).2⟩, h5⟩), h.row, h.kd, fun j hj => Nat.le_trans hb.size (h.own j hj), h.up⟩

theorem CodeAt.later2 {w0 w w' : World} {cb D L G : Nat} {v : Value} {β : Nat → Nat} (h : CodeAt w0 w cb D L G v β) (hb : Below w.heap.size w w') : CodeAt w0 w' cb D L G v β :=
  ⟨h.below.trans (hb.mono h.below.size), h.own, h.kd.later hb, h.par.later hb, h.at3.later hb, h.gm.later hb⟩

theorem nfalse' {a b : Nat} (h : a = b) : ((a : Int) != (b : Int)) = false := by simp; omega
theorem ntrue' {a b : Nat} (h : a ≠ b) : ((a : Int) != (b : Int)) = true := by simp; omega

set_option maxHeartbeats 1000000 in
theorem sEncode_ok (D L G : Nat) (hR : Right D L G) (a : Option Addr) (b o n c : Nat) (S : Nat → Sl) (w : World) (ha : 0 < n → a = some ⟨b, o, none⟩) (hout : Rd w b o n (fun i => (S i).v)) (hok : ∀ i, i < n → (S i).ok w) (hc : n ≤ c) (hn : n ≤ 1000000) :
    Calls Tryd.prog 10 #[PV D L G, .slice a n c] w (EncIs w D L G n S) := by
  have h1 := hR.d1
  have HN := Lib.hid (new_ok D L G hR)
  have HE := Lib.hid (fun w0 cb v β W w hC ha hout hok hW hW2 => encode_any w0 cb D L G v β a b o c W S w hC hR ha hout hok hW hW2)
  have HO := Lib.hid hout
  have HK := Lib.hid hok
  have HA := Lib.hid ha
  clear hR hout hok ha
  have HB := Lib.hid ((Below.refl w.heap.size w).alloc (Nat.le_refl _) (.cells #[I D, I L, I G] 23))
  have HP := Lib.hid (pcI_new w D L G 23)
  go_enter Tryd.func10, Tryd.ntmps10
  go_wp2_with fail
  refine (HN.out _).mono ?_
  rintro e w1 ⟨cb, v, β, rfl, hC⟩
  have HC := Lib.hid hC
  have HB1 := Lib.hid (HB.out.trans (hC.below.mono HB.out.size))
  have a0 : w1.cell? ⟨w.heap.size, 0, none⟩ = some (I D) := (HP.out.later hC.below) 0 (by omega)
  have HO1 := Lib.hid (HO.out.later HB1.out)
  have HK1 := Lib.hid (fun i (hi : i < n) => (HK.out i hi).later HB1.out)
  clear hC HN HB HP HO
  by_cases hnD : n = D
  · subst hnD
    have hnn : ((n : Int) != (n : Int)) = false := by simp
    obtain rfl := HA.out (by omega)
    have d0 := HO1.out 0 (by omega)
    rw [Nat.add_zero] at d0
    have hm0 : (S 0).n ≤ 140737488355328 := Nat.le_trans (HK.out 0 (by omega)).cap (HK.out 0 (by omega)).max
    go_wp2_with fail
    go_loopg [26] n (fun g i wr => ∃ k : Nat, g = n - k ∧ k ≤ n ∧ i = I k ∧ EncTo k S ∧ w1 = wr)
    case atStart => exact ⟨0, rfl, by omega, rfl, fun i hi => absurd hi (by omega), rfl⟩
    case round =>
      obtain ⟨k, rfl, hk, rfl, hT, rfl⟩ := hrel
      have HT := Lib.hid hT
      clear hT
      by_cases hlt : k < n
      · have dk := HO1.out k hlt
        have hmk : (S k).n ≤ 140737488355328 := Nat.le_trans (HK.out k hlt).cap (HK.out k hlt).max
        by_cases e1 : (S k).n = (S 0).n
        · have t1 := nfalse' e1
          have HE1 := Lib.hid e1
          clear e1
          by_cases e2 : 4096 < (S k).n
          · go_wp2_with fail
            go_ret2
            exact .inr ⟨fun h => by have := (h.2 k hlt).2; omega, rfl, HB1.out⟩
          · have t2 : decide (4096 < ((S k).n : Int)) = false := by simp; omega
            go_wp2_with fail
            go_roundg (n - (k + 1))
            case measure => omega
            case rel => exact ⟨k + 1, rfl, by omega, by go_num, HT.out.next HE1.out (by omega), rfl⟩
        · have t1 := ntrue' e1
          have HE1 := Lib.hid e1
          clear e1
          go_wp2_with fail
          go_ret2
          exact .inr ⟨fun h => HE1.out (h.2 k hlt).1, rfl, HB1.out⟩
      · obtain rfl : n = k := by omega
        have HX := Lib.hid (HE.out _ cb v β (S 0).n w1 HC.out (fun _ => by trivial) HO1.out HK1.out (fun i hi => (HT.out i hi).1) (HT.out 0 (by omega)).2 hc)
        go_wp2_with fail
        refine HX.out.mono ?_
        rintro e w2 ⟨v', γ, rfl, hm⟩
        have HM := Lib.hid (hm.mono HB1.out)
        clear hm
        go_wp2_with fail
        go_ret2
        exact .inl ⟨⟨rfl, HT.out⟩, _, _, rfl, HM.out⟩
  · have hnn : ((n : Int) != (D : Int)) = true := by simp; omega
    go_wp2_with fail
    go_ret2
    exact .inr ⟨fun h => hnD h.1, rfl, HB1.out⟩

def EncBad (w : World) (n : Int) (e : Ending) (w' : World) : Prop := e = .returned (.tuple #[.slice none 0 0, .iface 33 (I n)]) ∧ Below w.heap.size w w'

set_option maxHeartbeats 400000 in
theorem sEncode_bad (D L G : Int) (hR : ¬ RightI D L G) (v : Value) (w : World) : Calls Tryd.prog 10 #[PV D L G, v] w (EncBad w 1) := by
  have HN := Lib.hid (new_bad D L G hR)
  clear hR
  have HB := Lib.hid ((Below.refl w.heap.size w).alloc (Nat.le_refl _) (.cells #[I D, I L, I G] 23))
  go_enter Tryd.func10, Tryd.ntmps10
  go_wp2_with (go_at_call 29; refine (HN.out _).mono ?_; rintro e w1 ⟨rfl, hb⟩; have HB1 := Lib.hid (HB.out.trans (hb.mono HB.out.size)); clear hb)
  go_ret2
  exact ⟨rfl, HB1.out⟩

def EncYes (w : World) (D L G W : Nat) (S : Nat → Sl) (e : Ending) (w' : World) : Prop := ∃ v γ, e = .returned (.tuple #[v, .nilIface]) ∧ Mr w w' v (D + L + G) W (encM D L (fun i => (S i).x)) γ
theorem sEncode_yes (D L G W : Nat) (hR : Right D L G) (a : Option Addr) (b o c : Nat) (S : Nat → Sl) (w : World) (ha : 0 < D → a = some ⟨b, o, none⟩) (hout : Rd w b o D (fun i => (S i).v)) (hok : ∀ i, i < D → (S i).ok w) (hc : D ≤ c) (hW : ∀ i, i < D → (S i).n = W) (hW2 : W ≤ 4096) :
    Calls Tryd.prog 10 #[PV D L G, .slice a D c] w (EncYes w D L G W S) := by
  have h1 := hR.d1; have h2 := hR.d2
  refine (sEncode_ok D L G hR a b o D c S w ha hout hok hc (by omega)).mono ?_
  have hP : EncP D D S := ⟨rfl, fun i hi => ⟨by rw [hW i hi, hW 0 (by omega)], by rw [hW i hi]; exact hW2⟩⟩
  rintro e w' (⟨_, v, γ, rfl, hm⟩ | ⟨hn, _⟩)
  · rw [hW 0 (by omega)] at hm
    exact ⟨v, γ, rfl, hm⟩
  · exact absurd hP hn
end Go.Proofs.YthaamnjpjkkolabDoor
