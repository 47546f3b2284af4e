import Derived.Test.YthaamnjpjkkolabDoorRunS
import Derived.Test.YthaamnjpjkkolabDoorSameAll
/- The law's sameOutputs, where both are the same. -/
namespace Go.Proofs.YthaamnjpjkkolabDoor
open Go.RowKit Go.Proofs
set_option maxRecDepth 100000
set_option linter.unusedVariables false

/-- A list of outputs that lies in memory, to be read. -/
theorem Outs.els {base te N : Nat} {w : World} {v : Value} {L : List (Int × (Nat → UInt8))} {γ : Nat → Nat} (h : Outs base te w v L N γ) :
    ∃ a b c, v = .slice a L.length c ∧ Els w a b 0 2 L.length c (outF γ N L) := by
  obtain ⟨a, b, c, rfl, he, _⟩ := h.vz.shape
  exact ⟨a, b, c, rfl, he⟩

theorem Els.at0 {w : World} {a : Option Addr} {b n c : Nat} {f : Nat → Nat → Value} (h : Els w a b 0 2 n c f) {k : Nat} (hk : k < n) : w.cell? ⟨b, k * 2, none⟩ = some (f k 0) := by
  have := h.at hk (show 0 < 2 by omega); rwa [Nat.zero_add, Nat.add_zero] at this
theorem Els.at1 {w : World} {a : Option Addr} {b n c : Nat} {f : Nat → Nat → Value} (h : Els w a b 0 2 n c f) {k : Nat} (hk : k < n) : w.cell? ⟨b, k * 2 + 1, none⟩ = some (f k 1) := by
  have := h.at hk (show 1 < 2 by omega); rwa [Nat.zero_add] at this

theorem Vc.differ {w : World} {base e n m : Nat} {v v' : Value} {f g : Nat → Value} (h : Vc w base e v n f) (h' : Vc w base e v' m g) (hn : 0 < n) (hm : 0 < m) (hfg : f 0 ≠ g 0) : ∀ t, v.ownBlock = some t → v'.ownBlock = some t → False := fun t e1 e2 => by
  obtain ⟨a, b, c, rfl, ha, hr, _, _, hb⟩ := h.shape
  obtain ⟨a', b', c', rfl, ha', hr', _, _, hb'⟩ := h'.shape
  have x1 := hb t e1
  have x2 := hb' t e2
  have y1 := hr.cell 0 hn
  have y2 := hr'.cell 0 hm
  rw [← x1] at y1; rw [← x2] at y2
  exact hfg (Option.some.inj (y1.symm.trans y2))

theorem Vc.snoc {w : World} {base e k : Nat} {v : Value} {f : Nat → Value} (h : Vc w base e v (k + 1) (fun i => if i < k then f i else f k)) : Vc w base e v (k + 1) f :=
  h.congr fun i hi => by
    by_cases e : i < k
    · simp only [if_pos e]
    · simp only [if_neg e]; rw [show i = k by omega]
theorem Upd.undrewQ {G : Nat → Prop} {w w' : World} {n : Nat} (h : Upd G (w.drewN n) w') : Upd G w w' := ⟨h.os, h.tape, h.output, h.size, h.block⟩

set_option maxHeartbeats 4000000 in
theorem sameOutputs_yes (base te te' N : Nat) (w : World) (v v' : Value) (L : List (Int × (Nat → UInt8))) (γ δ : Nat → Nat) (h : Outs base te w v L N γ) (h' : Outs base te' w v' L N δ) (hne : ∀ i j, i < L.length → j < L.length → γ i ≠ δ j) (hL : L.length ≤ 2000) (hN : N ≤ 4096) :
    Calls Tryd.prog 20 #[v, v'] w fun e w' => e = .returned (.bool true) ∧ Upd (fun b => ∃ j, j < L.length ∧ b = γ j) w w' := by
  obtain ⟨a, b, c, rfl, he⟩ := h.els
  obtain ⟨a', b', c', rfl, he'⟩ := h'.els
  have HE := Lib.hid he
  have HE' := Lib.hid he'
  have HO := Lib.hid h
  have HO' := Lib.hid h'
  have HNE := Lib.hid hne
  have hc := he.cap; have hc' := he'.cap; have hm := he.max; have hm' := he'.max
  clear h h' he he' hne
  have HD := Lib.hid (fun (h0 : 0 < L.length) => (show (Value.slice (some ⟨γ 0, 0, none⟩) N N) ≠ .slice (some ⟨δ 0, 0, none⟩) N N from fun e => by simp at e; exact HNE.out 0 0 h0 h0 e))
  obtain ⟨n, hn⟩ : ∃ n, n = L.length := ⟨_, rfl⟩
  rw [← hn] at HE HE' HNE HD hc hc' hL ⊢
  have HLn := Lib.hid hn
  clear hn
  have hnn : ((n : Int) != (n : Int)) = false := by simp
  go_enter Tryd.func20, Tryd.ntmps20
  go_wp2_with fail
  go_loopg [5, 6, 7] n (fun g v v' i wr => ∃ k : Nat, g = n - k ∧ k ≤ n ∧ i = I k ∧ Below w.heap.size w wr ∧ Vc wr w.heap.size 28 v k (fun j => .slice (some ⟨γ j, 0, none⟩) N N) ∧ Vc wr w.heap.size 28 v' k (fun j => .slice (some ⟨δ j, 0, none⟩) N N) ∧ (k = 0 → v' = .slice none 0 0))
  case atStart => exact ⟨0, rfl, by omega, rfl, Below.refl _ _, Vc.nil _ _ _ _, Vc.nil _ _ _ _, fun _ => rfl⟩
  case round =>
    obtain ⟨k, rfl, hk, rfl, hb, hx, hy, hz⟩ := hrel
    have HB := Lib.hid hb
    have HX := Lib.hid hx
    have HY := Lib.hid hy
    have HZ := Lib.hid hz
    have hsz : w.heap.size ≤ wr.heap.size := hb.size
    clear hb hx hy hz
    by_cases hlt : k < n
    · obtain rfl := HE.out.addr (by omega)
      obtain rfl := HE'.out.addr (by omega)
      have hkI : (k : Int) < (n : Int) := by omega
      have x0 : wr.cell? ⟨b, k * 2, none⟩ = some (I (L.getD k Od).1) := ((HE.out.later HB.out).at0 hlt)
      have y0 : wr.cell? ⟨b', k * 2, none⟩ = some (I (L.getD k Od).1) := ((HE'.out.later HB.out).at0 hlt)
      have x1 : wr.cell? ⟨b, k * 2 + 1, none⟩ = some (.slice (some ⟨γ k, 0, none⟩) N N) := ((HE.out.later HB.out).at1 hlt)
      have HE2 := Lib.hid (fun w2 hb => (show World.cell? w2 ⟨b', k * 2 + 1, none⟩ = some (.slice (some ⟨δ k, 0, none⟩) N N) from (HE'.out.later hb).at1 hlt))
      have HBU := Lib.hid (fun w2 (hu : Upd (fun b => some b = u5.ownBlock) wr w2) => Below.upd HB.out hu (fun b e => (HX.out.lt b e.symm).1) hsz)
      have HYK := Lib.hid (fun w2 (hu : Upd (fun b => some b = u5.ownBlock) wr w2) => HY.out.kept hu fun t ht e => by
        rcases Nat.eq_zero_or_pos k with h0 | h0
        · rw [HZ.out h0] at ht; simp [Value.ownBlock] at ht
        · exact HX.out.differ HY.out h0 h0 (HD.out (by omega)) t e.symm ht)
      generalize (L.getD k Od).1 = sh at *
      have hss : (sh != sh) = false := by simp
      go_wp2_with fail
      go_quiet (fail)
      go_wp2_with (first | (refine wpList_append_one rfl (.tmp 30) (.tmp 36) 24 rfl w.heap.size 28 (.slice none 0 0) 24 Tryd.underlying24 infoBs rfl _ k _ rfl (HX.out.drewN nq) (.slice (some ⟨γ k, 0, none⟩) N N) _ rfl rfl (by omega) (by omega) hsz ?_; intro v2 w2 hv2 hu2; have HV2 := Lib.hid hv2.snoc; have HU2 := Lib.hid hu2.undrewQ; have HB2 := Lib.hid (HBU.out w2 hu2.undrewQ); have HY2 := Lib.hid (HYK.out w2 hu2.undrewQ); have y1 := HE2.out w2 HB2.out; have hs2 : w.heap.size ≤ w2.heap.size := HB2.out.size; clear hv2 hu2) | (refine wpList_append_one rfl (.tmp 38) (.tmp 44) 24 rfl w.heap.size 28 (.slice none 0 0) 24 Tryd.underlying24 infoBs rfl _ k _ rfl HY2.out (.slice (some ⟨δ k, 0, none⟩) N N) _ rfl rfl (by omega) (by omega) hs2 ?_; intro v3 w3 hv3 hu3; have HV3 := Lib.hid hv3.snoc; have HU3 := Lib.hid hu3; clear hv3 hu3))
      go_roundg (n - (k + 1))
      case measure => omega
      case rel =>
        have hne : ∀ t, v2.ownBlock = some t → ¬ some t = u6.ownBlock := fun t h1 h2 => by
          rcases Nat.eq_zero_or_pos k with h0 | h0
          · rw [HZ.out h0] at h2; simp [Value.ownBlock] at h2
          · exact HV2.out.differ HY2.out (by omega) h0 (HD.out (by have := HLn.out; omega)) t h1 h2.symm
        exact ⟨k + 1, rfl, by omega, by go_num, Below.upd HB2.out HU3.out (fun b e => (HY2.out.lt b e.symm).1) hs2, HV2.out.kept HU3.out hne, HV3.out, fun h => absurd h (by omega)⟩
    · obtain rfl : n = k := by omega
      obtain ⟨va, vb, vc, rfl, hva, hvr, hvc, hvk, _⟩ := HX.out.shape
      obtain ⟨ya, yb, yc, rfl, hya, hyr, hyc, hyk, _⟩ := HY.out.shape
      have HT := Lib.hid (show Twin wr va ya vb yb n N γ δ (fun j => (L.getD j Od).2) from
        ⟨hva, hya, hvr.rd, hyr.rd, fun i hi => (HO.out.row i (by have := HLn.out; omega)).later HB.out, fun i hi => ((HO'.out.row i (by have := HLn.out; omega)).later HB.out).rd, fun i hi => (HO.out.kd i (by have := HLn.out; omega)).later HB.out,
         fun h => (hvk h).2, fun h => (hyk h).2, fun i j hij hj => HO.out.up i j hij (by have := HLn.out; omega), fun i hi j hj e => HNE.out j i hj hi e.symm⟩)
      clear hva hvr hvc hvk hya hyr hyc hyk
      go_wp2_with fail
      refine (sameAll_yes va ya vb yb n vc yc N γ δ _ wr HT.out (by omega) (by omega)).mono ?_
      rintro e w4 ⟨rfl, hu4⟩
      have HU4 := Lib.hid ((Upd.of_below HB.out).mono (H := fun b => ∃ j, j < n ∧ b = γ j) (fun _ _ e => e.elim) |>.trans hu4 (fun _ h _ => h))
      clear hu4
      go_wp2_with fail
      go_ret
      exact ⟨rfl, HU4.out⟩
end Go.Proofs.YthaamnjpjkkolabDoor
