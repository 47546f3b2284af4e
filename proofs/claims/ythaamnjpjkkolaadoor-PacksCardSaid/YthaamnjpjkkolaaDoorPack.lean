import Derived.Test.YthaamnjpjkkolaaDoorSteps
/- Pack: a program's bytes. -/
namespace Go.Proofs.YthaamnjpjkkolaaDoor
open Go.RowKit Go.Proofs
set_option maxRecDepth 100000
set_option linter.unusedVariables false

/-- A step that can be written. -/
def Fit (s : Stp) : Prop := s.k.toNat ≤ 2 ∧ 0 ≤ s.a ∧ s.a < 256 ∧ 0 ≤ s.b ∧ s.b < 256 ∧ (s.c.toNat = 0 ∨ s.k.toNat = 1)
instance (s : Stp) : Decidable (Fit s) := by unfold Fit; infer_instance
def FitTo (k : Nat) (S : Nat → Stp) : Prop := ∀ i, i < k → Fit (S i)
theorem FitTo.next {k : Nat} {S : Nat → Stp} (h : FitTo k S) (h' : Fit (S k)) : FitTo (k + 1) S := fun i hi => by
  by_cases e : i = k
  · exact e ▸ h'
  · exact h i (by omega)
def PackP (regs : Int) (n : Nat) (S : Nat → Stp) : Prop := 0 ≤ regs ∧ regs ≤ 32 ∧ n ≤ 2000 ∧ FitTo n S

def stB (s : Stp) (j : Nat) : UInt8 := if j = 0 then s.k else if j = 1 then b8 s.a else if j = 2 then b8 s.b else s.c
def packX (regs : Int) (n : Nat) (S : Nat → Stp) : Nat → UInt8 := fun i =>
  if i = 0 then b8 regs else if i = 1 then b8 ((n : Int) / 256) else if i = 2 then b8 ((n : Int) % 256) else stB (S ((i - 3) / 4)) ((i - 3) % 4)
theorem packX_at (regs : Int) (n : Nat) (S : Nat → Stp) {k i : Nat} (h1 : 3 + 4 * k ≤ i) (h2 : i < 3 + 4 * (k + 1)) : packX regs n S i = stB (S k) (i - (3 + 4 * k)) := by
  unfold packX
  rw [if_neg (by omega), if_neg (by omega), if_neg (by omega), show (i - 3) / 4 = k by omega, show (i - 3) % 4 = i - (3 + 4 * k) by omega]

theorem Vc.of_cells (w : World) (base t : Nat) (c : Array Value) (f : Nat → Value) (hb : base ≤ w.heap.size) (hm : c.size ≤ 1000000) (hf : ∀ i, i < c.size → c[i]? = some (f i)) :
    Vc (w.alloc (.cells c t)) base t (.slice (some ⟨w.heap.size, 0, none⟩) c.size c.size) c.size f := by
  refine ⟨by simp, .inr ⟨w.heap.size, c.size, c, rfl, hb, Deep.blk_alloc_new _ _, Nat.le_refl _, by unfold maxLen; omega, by simp, ?_⟩⟩
  refine List.ext_getElem? fun i => ?_
  by_cases hi : i < c.size
  · have := hf i hi
    simp [hi] at this ⊢
    exact this
  · simp [hi]
theorem Vc.base_le {w : World} {base base' e n : Nat} {v : Value} {f : Nat → Value} (h : Vc w base e v n f) (hb : base' ≤ base) : Vc w base' e v n f := by
  refine ⟨h.1, ?_⟩
  rcases h.2 with hn | ⟨g, cap, cur, rfl, hg, rest⟩
  · exact .inl hn
  · exact .inr ⟨g, cap, cur, rfl, Nat.le_trans hb hg, rest⟩

theorem packX_start (regs : Int) (n : Nat) (S : Nat → Stp) (h0 : 0 ≤ regs) (h1 : regs ≤ 32) (hn : n ≤ 2000) (w : World) (base : Nat) (hb : base ≤ w.heap.size) :
    Vc (w.alloc (.cells #[.int .u8 regs, .int .u8 ((n : Int) / 256), .int .u8 ((n : Int) % 256)] 5)) base 5 (.slice (some ⟨w.heap.size, 0, none⟩) 3 3) (3 + 4 * 0) (bs (packX regs n S)) := by
  refine Vc.of_cells w base 5 #[.int .u8 regs, .int .u8 ((n : Int) / 256), .int .u8 ((n : Int) % 256)] _ hb (by simp) fun i hi => ?_
  have hi' : i < 3 := hi
  rcases (show i = 0 ∨ i = 1 ∨ i = 2 by omega) with rfl | rfl | rfl
  · show some (Value.int .u8 regs) = some (B (b8 regs)); rw [B_b8 h0 (by omega)]
  · show some (Value.int .u8 ((n : Int) / 256)) = some (B (b8 ((n : Int) / 256))); rw [B_b8 (by omega) (by omega)]
  · show some (Value.int .u8 ((n : Int) % 256)) = some (B (b8 ((n : Int) % 256))); rw [B_b8 (by omega) (by omega)]

theorem packX_next {regs : Int} {n k : Nat} {S : Nat → Stp} {w : World} {base : Nat} {v : Value} (h : Vc w base 5 v (3 + 4 * k + 4) (fun i => if i < 3 + 4 * k then bs (packX regs n S) i else B (stB (S k) (i - (3 + 4 * k))))) :
    Vc w base 5 v (3 + 4 * (k + 1)) (bs (packX regs n S)) := by
  rw [show 3 + 4 * (k + 1) = 3 + 4 * k + 4 by omega]
  refine h.congr fun i hi => ?_
  by_cases e : i < 3 + 4 * k
  · simp only [if_pos e]
  · simp only [if_neg e, bs]; rw [packX_at regs n S (k := k) (by omega) (by omega)]

/-- Four cells of a block of its own. -/
structure Four (w : World) (b : Nat) (x y z u : Value) : Prop where
  c0 : w.cell? ⟨b, 0, none⟩ = some x
  c1 : w.cell? ⟨b, 1, none⟩ = some y
  c2 : w.cell? ⟨b, 2, none⟩ = some z
  c3 : w.cell? ⟨b, 3, none⟩ = some u
theorem Row.new4 (w : World) (x y z u : Value) (t : TypeId) : Four (w.alloc (.cells #[x, y, z, u] t)) w.heap.size x y z u :=
  ⟨by rw [cell_new]; rfl, by rw [cell_new]; rfl, by rw [cell_new]; rfl, by rw [cell_new]; rfl⟩
theorem Four.later {w w' : World} {b : Nat} {x y z u : Value} (h : Four w b x y z u) (hb : Below w.heap.size w w') : Four w' b x y z u := by
  have hlt : b < w.heap.size := World.block_lt_of_cell? _ _ h.c0
  exact ⟨(hb.cell (p := ⟨b, 0, none⟩) hlt).trans h.c0, (hb.cell (p := ⟨b, 1, none⟩) hlt).trans h.c1, (hb.cell (p := ⟨b, 2, none⟩) hlt).trans h.c2, (hb.cell (p := ⟨b, 3, none⟩) hlt).trans h.c3⟩

/-- The four bytes of a step, in a block of their own. -/
theorem stB_new (s : Stp) (h : Fit s) (w : World) : Rd (w.alloc (.cells #[B s.k, .int .u8 s.a, .int .u8 s.b, B s.c] 5)) w.heap.size 0 4 (fun j => B (stB s j)) := fun j hj => by
  rw [Nat.zero_add, cell_new]
  rcases (show j = 0 ∨ j = 1 ∨ j = 2 ∨ j = 3 by omega) with rfl | rfl | rfl | rfl
  · rfl
  · show some (Value.int .u8 s.a) = some (B (b8 s.a)); rw [B_b8 h.2.1 h.2.2.1]
  · show some (Value.int .u8 s.b) = some (B (b8 s.b)); rw [B_b8 h.2.2.2.1 h.2.2.2.2.1]
  · rfl

def fitB (s : Stp) : Bool := decide (Fit s)
theorem fitB_t {s : Stp} (h : fitB s = true) : Fit s := by simpa [fitB] using h
theorem fitB_f {s : Stp} (h : fitB s = false) : ¬ Fit s := by simpa [fitB] using h

set_option maxHeartbeats 1000000 in
theorem fits_any (s : Stp) (w : World) :
    Calls Tryd.prog 43 #[.agg #[B s.k, I s.a, I s.b, B s.c]] w fun e w' => e = .returned (.bool (fitB s)) ∧ Below w.heap.size w w' := by
  have HB := Lib.hid ((Below.refl w.heap.size w).alloc (Nat.le_refl _) (.cells #[B s.k, I s.a, I s.b, B s.c] 65))
  have HN := Lib.hid (fun (h : ¬ Fit s) => (show fitB s = false from decide_eq_false h))
  have HF := Lib.hid (fun (h : Fit s) => (show fitB s = true from decide_eq_true h))
  obtain ⟨k, a, b, c⟩ := s
  dsimp only at *
  have hk0 := k.toNat_lt
  by_cases k2 : k.toNat ≤ 2
  case neg =>
    have d := decide_eq_false (show ¬ (k.toNat : Int) ≤ 2 by omega)
    go_enter Tryd.func43, Tryd.ntmps43
    go_wp2_with fail
    go_ret
    exact ⟨by rw [HN.out (fun h => by unfold Fit at h; dsimp only at h; omega)]; first | rfl | (simp; done) | (simp; omega), HB.out⟩
  by_cases a1 : 0 ≤ a
  case neg =>
    have d := decide_eq_false a1
    go_enter Tryd.func43, Tryd.ntmps43
    go_wp2_with fail
    go_ret
    exact ⟨by rw [HN.out (fun h => by unfold Fit at h; dsimp only at h; omega)]; first | rfl | (simp; done) | (simp; omega), HB.out⟩
  by_cases a2 : a < 256
  case neg =>
    have d := decide_eq_false a2
    go_enter Tryd.func43, Tryd.ntmps43
    go_wp2_with fail
    go_ret
    exact ⟨by rw [HN.out (fun h => by unfold Fit at h; dsimp only at h; omega)]; first | rfl | (simp; done) | (simp; omega), HB.out⟩
  by_cases b1 : 0 ≤ b
  case neg =>
    have d := decide_eq_false b1
    go_enter Tryd.func43, Tryd.ntmps43
    go_wp2_with fail
    go_ret
    exact ⟨by rw [HN.out (fun h => by unfold Fit at h; dsimp only at h; omega)]; first | rfl | (simp; done) | (simp; omega), HB.out⟩
  by_cases b2 : b < 256
  case neg =>
    have d := decide_eq_false b2
    go_enter Tryd.func43, Tryd.ntmps43
    go_wp2_with fail
    go_ret
    exact ⟨by rw [HN.out (fun h => by unfold Fit at h; dsimp only at h; omega)]; first | rfl | (simp; done) | (simp; omega), HB.out⟩
  have hd1 := decide_eq_true (show (k.toNat : Int) ≤ 2 by omega)
  by_cases c1 : c.toNat = 0
  · have t1 := btrue (a := (c.toNat : Int)) (b := 0) (by omega)
    have HC := Lib.hid c1
    clear c1
    go_enter Tryd.func43, Tryd.ntmps43
    go_wp2_with fail
    go_ret
    exact ⟨by rw [HF.out ⟨k2, a1, a2, b1, b2, .inl HC.out⟩]; first | rfl | (simp; done) | (simp; omega), HB.out⟩
  · have t1 := bfalse (a := (c.toNat : Int)) (b := 0) (by omega)
    have HC := Lib.hid c1
    clear c1
    by_cases k1 : k.toNat = 1
    · have t2 := btrue (a := (k.toNat : Int)) (b := 1) (by omega)
      have HK := Lib.hid k1
      clear k1
      go_enter Tryd.func43, Tryd.ntmps43
      go_wp2_with fail
      go_ret
      exact ⟨by rw [HF.out ⟨k2, a1, a2, b1, b2, .inr HK.out⟩]; first | rfl | (simp; done) | (simp; omega), HB.out⟩
    · have t2 := bfalse (a := (k.toNat : Int)) (b := 1) (by omega)
      have HK := Lib.hid k1
      clear k1
      go_enter Tryd.func43, Tryd.ntmps43
      go_wp2_with fail
      go_ret
      exact ⟨by rw [HN.out (fun h => by have h1 := HC.out; have h2 := HK.out; unfold Fit at h; dsimp only at h; omega)]; first | rfl | (simp; done) | (simp; omega), HB.out⟩

def PackIs (w : World) (regs : Int) (n : Nat) (S : Nat → Stp) (e : Ending) (w' : World) : Prop :=
  (PackP regs n S ∧ (∃ v, e = .returned (.tuple #[v, .nilIface]) ∧ Vc w' w.heap.size 5 v (3 + 4 * n) (bs (packX regs n S))) ∨
   ¬ PackP regs n S ∧ e = .returned (.tuple #[.slice none 0 0, .iface 28 (I 4)])) ∧ Below w.heap.size w w'

set_option maxHeartbeats 2000000 in
theorem pack_any (a : Option Addr) (b o n c : Nat) (S : Nat → Stp) (regs : Int) (w : World) (h : Stps w a b o n c fun i => sc (S i)) :
    Calls Tryd.prog 27 #[.agg #[I regs, .slice a n c]] w (PackIs w regs n S) := by
  have HS := Lib.hid h
  have hcap := h.cap; have hmax := h.max
  clear h
  have HB := Lib.hid ((Below.refl w.heap.size w).alloc (Nat.le_refl _) (.cells #[I regs, .slice a n c] 24))
  by_cases h1 : regs < 0
  · go_enter Tryd.func27, Tryd.ntmps27
    go_wp2_with fail
    go_ret2
    exact ⟨.inr ⟨fun h => by have := h.1; omega, rfl⟩, HB.out⟩
  by_cases h2 : 32 < regs
  · go_enter Tryd.func27, Tryd.ntmps27
    go_wp2_with fail
    go_ret2
    exact ⟨.inr ⟨fun h => by have := h.2.1; omega, rfl⟩, HB.out⟩
  by_cases h3 : 2000 < n
  · go_enter Tryd.func27, Tryd.ntmps27
    go_wp2_with fail
    go_ret2
    exact ⟨.inr ⟨fun h => by have := h.2.2.1; omega, rfl⟩, HB.out⟩
  have HV0 := Lib.hid (show Vc _ _ _ (.slice (some ⟨w.heap.size + 1, 0, none⟩) 3 3) _ _ from World.size_alloc w (.cells #[I regs, .slice a n c] 24) ▸ packX_start regs n S (by omega) (by omega) (by omega) (w.alloc (.cells #[I regs, .slice a n c] 24)) w.heap.size (by simp))
  have HB2 := Lib.hid (HB.out.alloc (by simp) (.cells #[.int .u8 regs, .int .u8 ((n : Int) / 256), .int .u8 ((n : Int) % 256)] 5))
  go_enter Tryd.func27, Tryd.ntmps27
  go_wp2_with fail
  go_loopg [4, 38] n (fun g v i wr => ∃ k : Nat, g = n - k ∧ k ≤ n ∧ i = I k ∧ Below w.heap.size w wr ∧ Vc wr w.heap.size 5 v (3 + 4 * k) (bs (packX regs n S)) ∧ FitTo k S)
  case atStart => exact ⟨0, rfl, by omega, rfl, HB2.out, HV0.out, fun i hi => absurd hi (by omega)⟩
  case round =>
    obtain ⟨k, rfl, hk, rfl, hb, hv, ho⟩ := hrel
    obtain ⟨va, vb, vc, rfl, hva, _⟩ := hv.shape
    obtain rfl := hva (by omega)
    have HB1 := Lib.hid hb
    have HV := Lib.hid hv
    have HO := Lib.hid ho
    clear hb hv ho hva HV0 HB2
    by_cases hlt : k < n
    · obtain rfl := HS.out.addr (by omega)
      have hat := (HS.out.later HB1.out).rd.at4 hlt
      have hsz : w.heap.size ≤ wr.heap.size := HB1.out.size
      obtain ⟨s, hs⟩ : ∃ s, s = S k := ⟨_, rfl⟩
      rw [← hs] at hat
      have HSk := Lib.hid hs
      have c0 : wr.cell? ⟨b, o + k * 4, none⟩ = some (B s.k) := hat.c0
      have c1 : wr.cell? ⟨b, o + k * 4 + 1, none⟩ = some (I s.a) := hat.c1
      have c2 : wr.cell? ⟨b, o + k * 4 + 2, none⟩ = some (I s.b) := hat.c2
      have c3 : wr.cell? ⟨b, o + k * 4 + 3, none⟩ = some (B s.c) := hat.c3
      clear hs hat
      have HP := Lib.hid (Row.new4 wr (B s.k) (I s.a) (I s.b) (B s.c) 65)
      cases hf : fitB s with
      | false =>
        have HF := Lib.hid hf
        clear hf
        go_wp2_with (go_at_call 43; refine (fits_any s _).mono ?_; rintro e w1 ⟨rfl, hb⟩; rw [HF.out]; have HB3 := Lib.hid ((HB1.out.alloc HB1.out.size (.cells #[B s.k, I s.a, I s.b, B s.c] 65)).trans (hb.mono (by simp; omega))); clear hb)
        go_ret2
        exact ⟨.inr ⟨fun h => fitB_f HF.out (HSk.out ▸ h.2.2.2 k hlt), rfl⟩, HB3.out⟩
      | true =>
        have HF := Lib.hid hf
        have hfit := fitB_t hf
        have g1 := hfit.2.1; have g2 := hfit.2.2.1; have g3 := hfit.2.2.2.1; have g4 := hfit.2.2.2.2.1
        clear hf hfit
        go_wp2_with (first | (go_at_call 43; refine (fits_any s _).mono ?_; rintro e w1 ⟨rfl, hb⟩; rw [HF.out]; have HB3 := Lib.hid ((HB1.out.alloc HB1.out.size (.cells #[B s.k, I s.a, I s.b, B s.c] 65)).trans (hb.mono (by simp; omega))); have HV1 := Lib.hid ((HV.out.alloc (.cells #[B s.k, I s.a, I s.b, B s.c] 65)).later hb); have hr := HP.out.later hb; have e0 := hr.c0; have e1 := hr.c1; have e2 := hr.c2; have e3 := hr.c3; have hsz1 : w.heap.size ≤ w1.heap.size := (by have := hb.size; rw [Deep.nblk_alloc] at this; omega); clear hb hr) | (refine wpList_append_vc rfl (.tmp 46) (.tmp 57) 37 rfl w.heap.size 5 (.int .u8 0) 1 Tryd.underlying37 infoU8 rfl (.slice (some ⟨vb, 0, none⟩) (3 + 4 * k) vc) (3 + 4 * k) _ rfl (HV1.out.alloc _) (some ⟨w1.heap.size, 0, none⟩) 4 4 w1.heap.size 0 (fun j => B (stB s j)) rfl (fun _ => rfl) (stB_new s (fitB_t HF.out) w1) (fun _ _ => rfl) (by omega) (by omega) (by rw [Deep.nblk_alloc]; omega) ?_; intro v3 w3 hv3 hu3; have HV3 := Lib.hid (packX_next (regs := regs) (n := n) (S := S) (HSk.out ▸ hv3)); have HB4 := Lib.hid (Below.upd (HB3.out.alloc hsz1 _) hu3 (fun b e => (HV1.out.lt b e.symm).1) (by rw [Deep.nblk_alloc]; omega)); clear hv3 hu3))
        go_roundg (n - (k + 1))
        case measure => omega
        case rel => exact ⟨k + 1, rfl, by omega, by go_num, HB4.out, HV3.out, HO.out.next (HSk.out ▸ fitB_t HF.out)⟩
    · obtain rfl : n = k := by omega
      go_wp2_with fail
      go_ret2
      exact ⟨.inl ⟨⟨by omega, by omega, by omega, HO.out⟩, _, rfl, HV.out⟩, HB1.out⟩
end Go.Proofs.YthaamnjpjkkolaaDoor
