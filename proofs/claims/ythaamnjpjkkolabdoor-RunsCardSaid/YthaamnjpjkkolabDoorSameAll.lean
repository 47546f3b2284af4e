import Derived.Test.YthaamnjpjkkolabDoorMat
/- The law's sameAll, where the lists are the same. -/
namespace Go.Proofs.YthaamnjpjkkolabDoor
open Go.RowKit Go.Proofs
set_option maxRecDepth 100000
set_option linter.unusedVariables false

/-- A row, turned. -/
def tu (k : Nat) (x : Nat → UInt8) : Nat → UInt8 := fun t => x t ^^^ UInt8.ofNat (k + 1)

/-- Two lists of rows that are the same; those of the first are apart from all. -/
structure Twin (w : World) (a a' : Option Addr) (vb vb' n W : Nat) (β γ : Nat → Nat) (M : Nat → Nat → UInt8) : Prop where
  ha : 0 < n → a = some ⟨vb, 0, none⟩
  ha' : 0 < n → a' = some ⟨vb', 0, none⟩
  hv : Rd w vb 0 n (fun i => .slice (some ⟨β i, 0, none⟩) W W)
  hv' : Rd w vb' 0 n (fun i => .slice (some ⟨γ i, 0, none⟩) W W)
  hr : ∀ i, i < n → Row w (β i) 0 W (bs (M i))
  hr' : ∀ i, i < n → Rd w (γ i) 0 W (bs (M i))
  hk : ∀ i, i < n → Kd w (β i) 5
  vk : 0 < n → Kd w vb 28
  vk' : 0 < n → Kd w vb' 28
  up : ∀ i j, i < j → j < n → β i < β j
  ne : ∀ i, i < n → ∀ j, j < n → γ i ≠ β j

/-- While the rows are turned: those up to k are. -/
structure Turning (w wr : World) (n W k : Nat) (β : Nat → Nat) (M : Nat → Nat → UInt8) : Prop where
  upd : Upd (fun b => ∃ j, j < k ∧ b = β j) w wr
  kd : KdKept w wr
  done : ∀ j, j < k → Row wr (β j) 0 W (bs (tu j (M j)))
theorem Turning.start (w : World) (n W : Nat) (β : Nat → Nat) (M : Nat → Nat → UInt8) : Turning w w n W 0 β M := ⟨Upd.refl _ _, KdKept.refl _, fun j hj => absurd hj (by omega)⟩
theorem Turning.drewN {w wr : World} {n W k : Nat} {β : Nat → Nat} {M : Nat → Nat → UInt8} (h : Turning w wr n W k β M) (q : Nat) : Turning w (wr.drewN q) n W k β M :=
  ⟨h.upd.drewN q, h.kd.drewN q, fun j hj => (h.done j hj).drewN q⟩
theorem Turning.next {w wr w2 : World} {n W k : Nat} {β : Nat → Nat} {M : Nat → Nat → UInt8} (h : Turning w wr n W k β M) (hk : k < n) (up : ∀ i j, i < j → j < n → β i < β j)
    (hd : Done wr w2 (β k) W (tu k (M k))) : Turning w w2 n W (k + 1) β M := by
  refine ⟨(h.upd.mono fun b _ ⟨j, hj, e⟩ => ⟨j, by omega, e⟩).trans hd.upd fun b e _ => ⟨k, by omega, e⟩, h.kd.trans hd.kd, fun j hj => ?_⟩
  by_cases e : j = k
  · subst e; exact hd.row
  · exact (h.done j (by omega)).upd hd.upd fun _ e' => by have := up j k (by omega) hk; omega

section
variable {w wr : World} {a a' : Option Addr} {vb vb' n W k : Nat} {β γ : Nat → Nat} {M : Nat → Nat → UInt8}
theorem Twin.notB (h : Twin w a a' vb vb' n W β γ M) (hk : k ≤ n) : ∀ b, Kd w b 28 → ¬ ∃ j, j < k ∧ b = β j := by
  rintro b hb ⟨j, hj, rfl⟩
  exact (h.hk j (by omega)).ne hb (by decide) rfl
theorem Twin.at1 (h : Twin w a a' vb vb' n W β γ M) (ht : Turning w wr n W k β M) (hk : k ≤ n) {i : Nat} (hi : i < n) : wr.cell? ⟨vb, i, none⟩ = some (.slice (some ⟨β i, 0, none⟩) W W) := by
  have := (h.hv.upd ht.upd fun h0 => h.notB hk _ (h.vk h0)) i hi
  simpa using this
theorem Twin.at2 (h : Twin w a a' vb vb' n W β γ M) (ht : Turning w wr n W k β M) (hk : k ≤ n) {i : Nat} (hi : i < n) : wr.cell? ⟨vb', i, none⟩ = some (.slice (some ⟨γ i, 0, none⟩) W W) := by
  have := (h.hv'.upd ht.upd fun h0 => h.notB hk _ (h.vk' h0)) i hi
  simpa using this
theorem Twin.row (h : Twin w a a' vb vb' n W β γ M) (ht : Turning w wr n W k β M) (hk : k < n) : Row wr (β k) 0 W (bs (M k)) :=
  (h.hr k hk).upd ht.upd fun _ ⟨j, hj, e⟩ => by have := h.up j k hj hk; omega
theorem Twin.row' (h : Twin w a a' vb vb' n W β γ M) (ht : Turning w wr n W k β M) (hk : k ≤ n) {i : Nat} (hi : i < n) : Rd wr (γ i) 0 W (bs (M i)) :=
  (h.hr' i hi).upd ht.upd fun _ ⟨j, hj, e⟩ => h.ne i hi j (by omega) e
end

theorem u8_conv (k : Nat) : ((k : Int) + 1) % 256 = ((UInt8.ofNat (k + 1)).toNat : Int) := by
  rw [UInt8.toNat_ofNat']; omega

set_option maxHeartbeats 2000000 in
theorem sameAll_yes (a a' : Option Addr) (vb vb' n c c' W : Nat) (β γ : Nat → Nat) (M : Nat → Nat → UInt8) (w : World) (h : Twin w a a' vb vb' n W β γ M) (hn : n ≤ 100000) (hW : W ≤ 100000) :
    Calls Tryd.prog 37 #[.slice a n c, .slice a' n c'] w fun e w' => e = .returned (.bool true) ∧ Upd (fun b => ∃ j, j < n ∧ b = β j) w w' := by
  have HT := Lib.hid h
  clear h
  have hnn : ((n : Int) != (n : Int)) = false := by simp
  go_enter Tryd.func37, Tryd.ntmps37
  go_wp2_with fail
  go_loopg [5] n (fun g i wr => ∃ k : Nat, g = n - k ∧ k ≤ n ∧ i = I k ∧ Turning w wr n W k β M)
  case atStart => exact ⟨0, rfl, by omega, rfl, Turning.start _ _ _ _ _⟩
  case round =>
    obtain ⟨k, rfl, hk, rfl, ht⟩ := hrel
    have HR := Lib.hid ht
    clear ht
    by_cases hlt : k < n
    · obtain rfl := HT.out.ha (by omega)
      obtain rfl := HT.out.ha' (by omega)
      have c1 := HT.out.at1 HR.out hk hlt
      have c2 := HT.out.at2 HR.out hk hlt
      have HS := Lib.hid (fun q => same_any (some ⟨β k, 0, none⟩) (some ⟨γ k, 0, none⟩) (β k) 0 (γ k) 0 W W W W (M k) (M k) (wr.drewN q) (fun _ => rfl) (fun _ => rfl) ((HT.out.row HR.out hlt).rd.drewN q) ((HT.out.row' HR.out hk hlt).drewN q) (by omega) (by omega))
      have HY := Lib.hid (show sameB W W (M k) (M k) = true from sameB_yes fun i _ => rfl)
      rw [HY.out] at HS
      go_wp2_with fail
      go_quiet ((go_at_call 26; exact Calls.quiet_of (HS.out _)))
      generalize nq = q1 at *
      go_wp2_with fail
      have c1' : (wr.drewN q1).cell? ⟨vb, k, none⟩ = some (.slice (some ⟨β k, 0, none⟩) W W) := c1
      go_quiet (fail)
      have HR2 := Lib.hid ((HR.out.drewN q1).drewN nq)
      have HW0 := Lib.hid (((HT.out.row HR.out hlt).drewN q1).drewN nq)
      generalize (wr.drewN q1).drewN nq = wo at *
      clear c1 c2 c1' HS HR
      go_wp2_with fail
      go_loopg [8] W (fun g i wr => ∃ m : Nat, g = W - m ∧ m ≤ W ∧ i = I m ∧ Doing wo wr (β k) W m (M k) (tu k (M k)))
      case atStart => exact ⟨0, rfl, by omega, rfl, Doing.start HW0.out⟩
      case round =>
        obtain ⟨m, rfl, hm, rfl, hd⟩ := hrel
        have HD := Lib.hid hd
        clear hd
        by_cases hlt2 : m < W
        · have d1 := HD.out.cellAt hlt2
          have d2 := HD.out.freeAt hlt2
          go_wp2_with fail
          go_roundg (W - (m + 1))
          case measure => omega
          case rel => exact ⟨m + 1, rfl, by omega, by go_num, HD.out.next hlt2 (by rw [u8_conv, xor8]; rfl)⟩
        · obtain rfl : W = m := by omega
          go_wp2_with fail
          go_roundg (n - (k + 1))
          case measure => omega
          case rel => exact ⟨k + 1, rfl, by omega, by go_num, HR2.out.next hlt HT.out.up HD.out.done⟩
    · obtain rfl : n = k := by omega
      go_wp2_with fail
      have HR2 := Lib.hid HR.out
      obtain ⟨wo, hwo⟩ : ∃ wo, wo = wr := ⟨_, rfl⟩
      rw [← hwo] at HR
      go_loopg [9] n (fun g i wr => ∃ k : Nat, g = n - k ∧ k ≤ n ∧ i = I k ∧ Turning w wr n W n β M)
      case atStart => exact ⟨0, rfl, by omega, rfl, HR2.out⟩
      case round =>
        obtain ⟨k, rfl, hk, rfl, ht⟩ := hrel
        have HR := Lib.hid ht
        clear ht HR2
        by_cases hlt : k < n
        · obtain rfl := HT.out.ha (by omega)
          obtain rfl := HT.out.ha' (by omega)
          have HR3 := Lib.hid HR.out
          go_wp2_with fail
          go_loopg [10] W (fun g i wr => ∃ m : Nat, g = W - m ∧ m ≤ W ∧ i = I m ∧ Turning w wr n W n β M)
          case atStart => exact ⟨0, rfl, by omega, rfl, HR3.out⟩
          case round =>
            obtain ⟨m, rfl, hm, rfl, ht⟩ := hrel
            have HR := Lib.hid ht
            clear ht HR3
            have c1 := HT.out.at1 HR.out (Nat.le_refl _) hlt
            have c2 := HT.out.at2 HR.out (Nat.le_refl _) hlt
            by_cases hlt2 : m < W
            · have d1 := (HR.out.done k hlt).cell m hlt2
              have d2 := HT.out.row' HR.out (Nat.le_refl _) hlt m hlt2
              rw [Nat.zero_add] at d1 d2
              have hx : bits BinOp.xor IntKind.u8 ((M k m).toNat : Int) (((k : Int) + 1) % 256) = ((tu k (M k) m).toNat : Int) := by rw [u8_conv, xor8]; rfl
              simp only [bs] at d1 d2
              generalize tu k (M k) m = z at *
              have hz : ((z.toNat : Int) != (z.toNat : Int)) = false := by simp
              go_wp2_with fail
              go_quiet (fail)

              go_wp2_with fail
              go_roundg (W - (m + 1))
              case measure => omega
              case rel => exact ⟨m + 1, rfl, by omega, by go_num, HR.out.drewN _⟩
            · obtain rfl : W = m := by omega
              go_wp2_with fail
              go_roundg (n - (k + 1))
              case measure => omega
              case rel => exact ⟨k + 1, rfl, by omega, by go_num, HR.out⟩
        · go_wp2_with fail
          go_ret
          exact ⟨rfl, HR.out.upd⟩

theorem twin_nil (w : World) : Twin w none none 0 0 0 0 (fun _ => 0) (fun _ => 0) (fun _ _ => 0) :=
  ⟨fun h => absurd h (by omega), fun h => absurd h (by omega), Rd.empty _ _ _ _, Rd.empty _ _ _ _, fun i hi => absurd hi (by omega), fun i hi => absurd hi (by omega), fun i hi => absurd hi (by omega), fun h => absurd h (by omega), fun h => absurd h (by omega), fun i j _ hj => absurd hj (by omega), fun i hi => absurd hi (by omega)⟩

end Go.Proofs.YthaamnjpjkkolabDoor
