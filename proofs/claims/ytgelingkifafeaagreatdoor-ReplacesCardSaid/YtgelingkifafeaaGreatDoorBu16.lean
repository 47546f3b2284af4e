import Derived.Test.YtgelingkifafeaaGreatDoorBu15
import Derived.Test.YtgelingkifafeaaGreatDoorBu04
/- An array of drives in memory. -/
namespace Go.Proofs.YtgelingkifafeaaGreatDoor
open Go Go.RowKit Go.Proofs
set_option maxRecDepth 100000
set_option linter.unusedVariables false

structure Drv where
  lost : Bool
  blk : Nat → Nat → UInt8
  bad : Nat → Bool
  reads : Int
structure Arr where
  n : Nat
  m : Nat
  drv : Nat → Drv
  wait : Int
/-- Where an array lies. -/
structure ArrL where
  ab : Nat
  db : Nat
  dc : Nat
  bk : Nat → Nat
  bd : Nat → Nat

def ArrL.dv (l : ArrL) (n : Nat) : Value := if n = 0 then .slice none 0 0 else .slice (some ⟨l.db, 0, none⟩) n l.dc
theorem ArrL.dv_shape (l : ArrL) (n : Nat) : ∃ a c, l.dv n = .slice a n c := by
  unfold ArrL.dv; split
  · rename_i h; subst h; exact ⟨_, _, rfl⟩
  · exact ⟨_, _, rfl⟩
def dcell (l : ArrL) (A : Arr) (d j : Nat) : Value :=
  if j = 0 then .bool (A.drv d).lost else if j = 1 then .slice (some ⟨l.bk d, 0, none⟩) A.m A.m else if j = 2 then .slice (some ⟨l.bd d, 0, none⟩) A.m A.m else I (A.drv d).reads
/-- The blocks of an array. -/
def ArrL.own (l : ArrL) (n : Nat) (b : Nat) : Prop := b = l.ab ∨ (b = l.db ∧ 0 < n) ∨ ∃ d, d < n ∧ (b = l.bk d ∨ b = l.bd d)

structure ArrAt (w : World) (l : ArrL) (A : Arr) : Prop where
  top : Row w l.ab 0 2 (fun i => if i = 0 then l.dv A.n else I A.wait)
  drives : Row w l.db 0 (A.n * 4) (elz 4 (dcell l A))
  blk : ∀ d, d < A.n → Row w (l.bk d) 0 (A.m * 64) (elz 64 fun b i => B ((A.drv d).blk b i))
  bad : ∀ d, d < A.n → Row w (l.bd d) 0 A.m (fun b => .bool ((A.drv d).bad b))
  kab : Kd w l.ab 59
  kdb : 0 < A.n → Kd w l.db 63
  kbk : ∀ d, d < A.n → Kd w (l.bk d) 170
  kbd : ∀ d, d < A.n → Kd w (l.bd d) 4
  ibk : ∀ d e, d < A.n → e < A.n → d ≠ e → l.bk d ≠ l.bk e
  ibd : ∀ d e, d < A.n → e < A.n → d ≠ e → l.bd d ≠ l.bd e
  n20 : A.n ≤ 1000
  m40 : A.m ≤ 1000000
  cap : A.n ≤ l.dc
  max : l.dc ≤ 9223372036854775807

theorem ArrAt.kept {w w' : World} {l : ArrL} {A : Arr} {G : Nat → Prop} (h : ArrAt w l A) (hu : Upd G w w') (hg : ∀ b, l.own A.n b → b < w.heap.size → ¬ G b) : ArrAt w' l A := by
  have gab : ¬ G l.ab := hg _ (.inl rfl) h.kab.lt
  have gdb : 0 < A.n → ¬ G l.db := fun hn => hg _ (.inr (.inl ⟨rfl, hn⟩)) (h.kdb hn).lt
  have gbk : ∀ d, d < A.n → ¬ G (l.bk d) := fun d hd => hg _ (.inr (.inr ⟨d, hd, .inl rfl⟩)) (h.kbk d hd).lt
  have gbd : ∀ d, d < A.n → ¬ G (l.bd d) := fun d hd => hg _ (.inr (.inr ⟨d, hd, .inr rfl⟩)) (h.kbd d hd).lt
  exact ⟨h.top.upd hu fun _ => gab, h.drives.upd hu fun h0 => gdb (by omega), fun d hd => (h.blk d hd).upd hu fun _ => gbk d hd, fun d hd => (h.bad d hd).upd hu fun _ => gbd d hd,
    h.kab.upd hu gab, fun hn => (h.kdb hn).upd hu (gdb hn), fun d hd => (h.kbk d hd).upd hu (gbk d hd), fun d hd => (h.kbd d hd).upd hu (gbd d hd), h.ibk, h.ibd, h.n20, h.m40, h.cap, h.max⟩
theorem ArrAt.later {w w' : World} {l : ArrL} {A : Arr} (h : ArrAt w l A) (hb : Below w.heap.size w w') : ArrAt w' l A := h.kept (Upd.of_below hb) fun _ _ _ => id
theorem ArrAt.own_lt {w : World} {l : ArrL} {A : Arr} (h : ArrAt w l A) : ∀ b, l.own A.n b → b < w.heap.size := by
  rintro b (rfl | ⟨rfl, hn⟩ | ⟨d, hd, rfl | rfl⟩)
  · exact h.kab.lt
  · exact (h.kdb hn).lt
  · exact (h.kbk d hd).lt
  · exact (h.kbd d hd).lt
/-- Behind what turned newer blocks alone. -/
theorem ArrAt.fresh {w w' : World} {l : ArrL} {A : Arr} {G : Nat → Prop} {B : Nat} (h : ArrAt w l A) (hu : Upd G w w') (hO : ∀ b, l.own A.n b → b < B) (hG : ∀ b, G b → B ≤ b) : ArrAt w' l A :=
  h.kept hu fun b hb _ hg => by have := hO b hb; have := hG b hg; omega

section
variable {w : World} {l : ArrL} {A : Arr}
theorem ArrAt.c0 (h : ArrAt w l A) : w.cell? ⟨l.ab, 0, none⟩ = some (l.dv A.n) := h.top.cell 0 (by omega)
theorem ArrAt.c1 (h : ArrAt w l A) : w.cell? ⟨l.ab, 1, none⟩ = some (I A.wait) := h.top.cell 1 (by omega)
theorem ArrAt.f1 (h : ArrAt w l A) : w.frozen? ⟨l.ab, 1, none⟩ = false := h.top.free 1 (by omega)
theorem ArrAt.cellD (h : ArrAt w l A) {d j : Nat} (hd : d < A.n) (hj : j < 4) : w.cell? ⟨l.db, d * 4 + j, none⟩ = some (dcell l A d j) := by
  have := h.drives.cell (d * 4 + j) (mul_add_lt hd hj)
  rwa [Nat.zero_add, elz_at _ _ _ hj] at this
theorem ArrAt.freeD (h : ArrAt w l A) {d j : Nat} (hd : d < A.n) (hj : j < 4) : w.frozen? ⟨l.db, d * 4 + j, none⟩ = false := by
  have := h.drives.free (d * 4 + j) (mul_add_lt hd hj)
  rwa [Nat.zero_add] at this
theorem ArrAt.cbad (h : ArrAt w l A) {d b : Nat} (hd : d < A.n) (hb : b < A.m) : w.cell? ⟨l.bd d, b, none⟩ = some (.bool ((A.drv d).bad b)) := by
  have := (h.bad d hd).cell b hb
  rwa [Nat.zero_add] at this
theorem ArrAt.fbad (h : ArrAt w l A) {d b : Nat} (hd : d < A.n) (hb : b < A.m) : w.frozen? ⟨l.bd d, b, none⟩ = false := by
  have := (h.bad d hd).free b hb
  rwa [Nat.zero_add] at this
end

/-- What an access is answered: none: nothing is wrong. -/
def Arr.err (A : Arr) (d b : Int) : Option Int :=
  if A.wait = 0 then some 13 else if d < 0 ∨ (A.n : Int) ≤ d ∨ (A.drv d.toNat).lost = true then some 11 else if b < 0 ∨ (A.m : Int) ≤ b then some 12 else none

/-- An error at a block, number k. -/
def BErr (w : World) (v : Value) (k : Int) : Prop := ∃ e d b, v = .iface 208 (.pointer (some ⟨e, 0, none⟩)) ∧ Row w e 0 3 (fun i => if i = 0 then I d else if i = 1 then I b else I k) ∧ Kd w e 210

theorem berr_new (w : World) (d b k : Int) : BErr (w.alloc (.cells #[I d, I b, I k] 210)) (.iface 208 (.pointer (some ⟨w.heap.size, 0, none⟩))) k :=
  ⟨w.heap.size, d, b, rfl, by
    refine ⟨fun i hi => ?_, fun i hi => ?_⟩
    · simp only [World.cell?, Nat.zero_add, Deep.blk_alloc_new]
      match i, hi with | 0, _ | 1, _ | 2, _ => rfl
    · simp only [World.frozen?, Deep.blk_alloc_new]; simp, Kd.new w _ _⟩

def FindIs (w : World) (l : ArrL) (A : Arr) (d b : Int) (e : Ending) (w' : World) : Prop :=
  (A.err d b = none ∧ e = .returned (.tuple #[.pointer (some ⟨l.db, d.toNat * 4, none⟩), .nilIface]) ∨
   ∃ k v, A.err d b = some k ∧ e = .returned (.tuple #[.pointer none, v]) ∧ BErr w' v k) ∧ Below w.heap.size w w'

set_option maxHeartbeats 400000 in
theorem find_any (w : World) (l : ArrL) (A : Arr) (d b : Int) (h : ArrAt w l A) : Calls Tryz.prog 78 #[.pointer (some ⟨l.ab, 0, none⟩), I d, I b] w (FindIs w l A d b) := by
  have c0 := h.c0; have c1 := h.c1
  have n20 := h.n20; have m40 := h.m40; have hcap := h.cap; have hmax := h.max
  have H := Lib.hid h
  clear h
  by_cases hw : A.wait = 0
  · have he : A.err d b = some 13 := by unfold Arr.err; rw [if_pos hw]
    have HE := Lib.hid he
    rw [hw] at c1
    clear he hw
    go_enter Tryz.func78, Tryz.ntmps78
    go_wp2_with fail
    go_ret2
    exact ⟨.inr ⟨13, _, HE.out, rfl, berr_new w d b 13⟩, (Below.refl _ w).alloc (Nat.le_refl _) _⟩
  · have hwb : (A.wait == 0) = false := by simp [hw]
    by_cases h1 : d < 0 ∨ (A.n : Int) ≤ d ∨ (A.drv d.toNat).lost = true
    · have he : A.err d b = some 11 := by unfold Arr.err; rw [if_neg hw, if_pos h1]
      have HE := Lib.hid he
      clear he hw
      rcases h1 with h1 | h1
      · have hd0 : decide (d < 0) = true := decide_eq_true h1
        go_enter Tryz.func78, Tryz.ntmps78
        go_wp2_with fail
        go_ret2
        exact ⟨.inr ⟨11, _, HE.out, rfl, berr_new w d b 11⟩, (Below.refl _ w).alloc (Nat.le_refl _) _⟩
      · by_cases hd0 : d < 0
        · have hd1 : decide (d < 0) = true := decide_eq_true hd0
          go_enter Tryz.func78, Tryz.ntmps78
          go_wp2_with fail
          go_ret2
          exact ⟨.inr ⟨11, _, HE.out, rfl, berr_new w d b 11⟩, (Below.refl _ w).alloc (Nat.le_refl _) _⟩
        · obtain ⟨d, rfl⟩ := Int.eq_ofNat_of_zero_le (Int.not_lt.1 hd0)
          clear hd0
          by_cases h2 : (A.n : Int) ≤ (d : Int)
          · obtain ⟨a, c, hv⟩ := l.dv_shape A.n
            rw [hv] at c0
            clear hv h1
            have hd1 : decide ((d : Int) < 0) = false := by simp
            have hd2 : decide ((A.n : Int) ≤ (d : Int)) = true := decide_eq_true h2
            go_enter Tryz.func78, Tryz.ntmps78
            go_wp2_with fail
            go_ret2
            exact ⟨.inr ⟨11, _, HE.out, rfl, berr_new w d b 11⟩, (Below.refl _ w).alloc (Nat.le_refl _) _⟩
          · have hl : (A.drv d).lost = true := by rcases h1 with h | h; exact absurd h h2; simpa using h
            have hdn : d < A.n := by omega
            have c2 : w.cell? ⟨l.db, d * 4, none⟩ = some (.bool true) := by have h := H.out.cellD (j := 0) hdn (by omega); rw [Nat.add_zero] at h; rw [h]; simp [dcell, hl]
            have hv : l.dv A.n = .slice (some ⟨l.db, 0, none⟩) A.n l.dc := by unfold ArrL.dv; rw [if_neg (by omega)]
            rw [hv] at c0
            clear hv h1 hl
            have hd1 : decide ((d : Int) < 0) = false := by simp
            have hd2 : decide ((A.n : Int) ≤ (d : Int)) = false := decide_eq_false h2
            go_enter Tryz.func78, Tryz.ntmps78
            go_wp2_with fail
            go_ret2
            exact ⟨.inr ⟨11, _, HE.out, rfl, berr_new w d b 11⟩, (Below.refl _ w).alloc (Nat.le_refl _) _⟩
    · have hd0 : ¬ d < 0 := fun h => h1 (.inl h)
      obtain ⟨d, rfl⟩ := Int.eq_ofNat_of_zero_le (Int.not_lt.1 hd0)
      have h2 : ¬ (A.n : Int) ≤ (d : Int) := fun h => h1 (.inr (.inl h))
      have hl : (A.drv d).lost = false := by
        cases hh : (A.drv d).lost with
        | false => rfl
        | true => exact absurd (.inr (.inr (by simpa using hh))) h1
      have hdn : d < A.n := by omega
      have c2 : w.cell? ⟨l.db, d * 4, none⟩ = some (.bool false) := by have h := H.out.cellD (j := 0) hdn (by omega); rw [Nat.add_zero] at h; rw [h]; simp [dcell, hl]
      have c3 : w.cell? ⟨l.db, d * 4 + 1, none⟩ = some (.slice (some ⟨l.bk d, 0, none⟩) A.m A.m) := H.out.cellD (j := 1) hdn (by omega)
      have hv : l.dv A.n = .slice (some ⟨l.db, 0, none⟩) A.n l.dc := by unfold ArrL.dv; rw [if_neg (by omega)]
      rw [hv] at c0
      have hd1 : decide ((d : Int) < 0) = false := by simp
      have hd2 : decide ((A.n : Int) ≤ (d : Int)) = false := decide_eq_false h2
      by_cases h3 : b < 0 ∨ (A.m : Int) ≤ b
      · have HE := Lib.hid (show A.err d b = some 12 by unfold Arr.err; rw [if_neg hw, if_neg h1, if_pos h3])
        clear hv h1 hl hw hd0
        by_cases hb0 : b < 0
        · have hb1 : decide (b < 0) = true := decide_eq_true hb0
          go_enter Tryz.func78, Tryz.ntmps78
          go_wp2_with fail
          go_ret2
          exact ⟨.inr ⟨12, _, HE.out, rfl, berr_new w d b 12⟩, (Below.refl _ w).alloc (Nat.le_refl _) _⟩
        · have hb1 : decide (b < 0) = false := decide_eq_false hb0
          have hb2 : decide ((A.m : Int) ≤ b) = true := decide_eq_true (by omega)
          have hb3 : (A.m : Int) ≤ b := by omega
          clear h3
          go_enter Tryz.func78, Tryz.ntmps78
          go_wp2_with fail
          go_ret2
          exact ⟨.inr ⟨12, _, HE.out, rfl, berr_new w d b 12⟩, (Below.refl _ w).alloc (Nat.le_refl _) _⟩
      · have HE := Lib.hid (show A.err d b = none by unfold Arr.err; rw [if_neg hw, if_neg h1, if_neg h3])
        have hb0 : ¬ b < 0 := fun h => h3 (.inl h)
        have hb3 : ¬ (A.m : Int) ≤ b := fun h => h3 (.inr h)
        have hb1 : decide (b < 0) = false := decide_eq_false hb0
        have hb2 : decide ((A.m : Int) ≤ b) = false := decide_eq_false hb3
        clear hv h1 hl hw hd0 h3
        go_enter Tryz.func78, Tryz.ntmps78
        go_wp2_with fail
        go_ret2
        exact ⟨.inl ⟨HE.out, rfl⟩, Below.refl _ w⟩
end Go.Proofs.YtgelingkifafeaaGreatDoor

/- Drives, Blocks. -/
namespace Go.Proofs.YtgelingkifafeaaGreatDoor
open Go Go.RowKit Go.Proofs
set_option maxRecDepth 100000
set_option linter.unusedVariables false

theorem drives_any (w : World) (l : ArrL) (A : Arr) (h : ArrAt w l A) : Calls Tryz.prog 27 #[.pointer (some ⟨l.ab, 0, none⟩)] w fun e w' => e = .returned (I A.n) ∧ w' = w := by
  have c0 := h.c0
  obtain ⟨a, c, e⟩ := l.dv_shape A.n
  rw [e] at c0
  clear h e
  go_enter Tryz.func27, Tryz.ntmps27
  go_wp2_with fail
  go_ret
  exact ⟨rfl, rfl⟩

theorem blocks_any (w : World) (l : ArrL) (A : Arr) (h : ArrAt w l A) : Calls Tryz.prog 28 #[.pointer (some ⟨l.ab, 0, none⟩)] w fun e w' => e = .returned (I (if A.n = 0 then 0 else A.m)) ∧ w' = w := by
  have c0 := h.c0
  have n20 := h.n20; have m40 := h.m40; have hcap := h.cap; have hmax := h.max
  by_cases hn : A.n = 0
  · rw [if_pos hn]
    have e : l.dv A.n = .slice none 0 0 := by unfold ArrL.dv; rw [if_pos hn]
    simp only [if_pos rfl, e] at c0
    clear h
    go_enter Tryz.func28, Tryz.ntmps28
    go_wp2_with fail
    go_ret
    exact ⟨rfl, rfl⟩
  · rw [if_neg hn]
    have e : l.dv A.n = .slice (some ⟨l.db, 0, none⟩) A.n l.dc := by unfold ArrL.dv; rw [if_neg hn]
    rw [e] at c0
    have hz : ((A.n : Int) == 0) = false := by simp; omega
    have h1 : w.cell? ⟨l.db, 1, none⟩ = some (.slice (some ⟨l.bk 0, 0, none⟩) A.m A.m) := by
      have := h.drives.cell (0 * 4 + 1) (by omega)
      rw [elz_at _ _ _ (by omega)] at this
      simpa [dcell] using this
    have hn0 : (0 : Int) < (A.n : Int) := by omega
    clear h e
    go_enter Tryz.func28, Tryz.ntmps28
    go_wp2_with fail
    go_ret
    exact ⟨rfl, rfl⟩
end Go.Proofs.YtgelingkifafeaaGreatDoor
