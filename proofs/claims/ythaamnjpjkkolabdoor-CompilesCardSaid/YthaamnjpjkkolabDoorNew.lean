import Derived.Test.YthaamnjpjkkolabDoorMaMat
/- The program's code: New, Group. -/
namespace Go.Proofs.YthaamnjpjkkolabDoor
open Go.RowKit Go.Proofs Lin
set_option maxRecDepth 100000
set_option linter.unusedVariables false

/-- A code in the making, in block cb: k rows are there. -/
structure NewIn (w1 wr : World) (cb k D L G : Nat) (v : Value) (β : Nat → Nat) : Prop where
  gm : Gm w1 wr v k D (codeM D L) β
  own : w1.heap.size ≤ cb
  kd : Kd wr cb 99
  par : Row wr cb 0 3 (pcells D L G)
  at3 : Row wr cb 3 1 (fun _ => v)

namespace NewIn
variable {w1 wr w2 w3 : World} {cb k D L G : Nat} {v v3 : Value} {β : Nat → Nat}
theorem later (h : NewIn w1 wr cb k D L G v β) (hb : Below wr.heap.size wr w2) : NewIn w1 w2 cb k D L G v β :=
  ⟨h.gm.later hb, h.own, h.kd.later hb, h.par.later hb, h.at3.later hb⟩
theorem start (w : World) (D L G : Nat) : NewIn w (w.alloc (.cells #[I D, I L, I G, .slice none 0 0] 99)) w.heap.size 0 D L G (.slice none 0 0) (fun _ => 0) := by
  refine ⟨Gm.start ((Below.refl _ _).alloc (Nat.le_refl _) _), Nat.le_refl _, Kd.new _ _ _, ⟨fun i hi => ?_, fun i hi => ?_⟩, ⟨fun i hi => ?_, fun i hi => ?_⟩⟩
  · simp only [World.cell?, Nat.zero_add, Deep.blk_alloc_new]
    rcases (show i = 0 ∨ i = 1 ∨ i = 2 by omega) with rfl | rfl | rfl <;> simp [pcells]
  · simp only [World.frozen?, Deep.blk_alloc_new]; simp
  · obtain rfl : i = 0 := by omega
    simp only [World.cell?, Deep.blk_alloc_new]; simp
  · simp only [World.frozen?, Deep.blk_alloc_new]; simp
/-- What was turned is the new row alone. -/
theorem fill (h : NewIn w1 wr cb k D L G v β) {ob : Obj} (hu1 : Upd (· = wr.heap.size) (wr.alloc ob) w2) : Kd w2 cb 99 ∧ Row w2 cb 0 3 (pcells D L G) ∧ Row w2 cb 3 1 (fun _ => v) := by
  have hlt := h.kd.lt
  exact ⟨(h.kd.alloc ob).upd hu1 (by omega), (h.par.alloc ob).upd hu1 (fun _ => by omega), (h.at3.alloc ob).upd hu1 (fun _ => by omega)⟩
theorem app (h : NewIn w1 wr cb k D L G v β) {ob : Obj} (hu1 : Upd (· = wr.heap.size) (wr.alloc ob) w2) (hu : Upd (fun b => some b = v.ownBlock) w2 w3) :
    Kd w3 cb 99 ∧ Row w3 cb 0 3 (pcells D L G) ∧ Row w3 cb 3 1 (fun _ => v) := by
  obtain ⟨a, b, c⟩ := h.fill hu1
  have hne : ¬ some cb = v.ownBlock := fun e => (h.gm.vcFill hu1).block_ne a (by decide) cb e.symm rfl
  exact ⟨a.upd hu hne, b.upd hu (fun _ => hne), c.upd hu (fun _ => hne)⟩
theorem next (h : NewIn w1 wr cb k D L G v β) {ob : Obj} (hu1 : Upd (· = wr.heap.size) (wr.alloc ob) w2) (hr : Row w2 wr.heap.size 0 D (bs (codeM D L k))) (hk : Kd w2 wr.heap.size 5)
    (hv : Vc w3 w1.heap.size 28 v3 (k + 1) (fun i => if i < k then .slice (some ⟨β i, 0, none⟩) D D else .slice (some ⟨wr.heap.size, 0, none⟩) D D)) (hu : Upd (fun b => some b = v.ownBlock) w2 w3) :
    NewIn w1 (w3.setCell ⟨cb, 3, none⟩ v3) cb (k + 1) D L G v3 (fun j => if j < k then β j else wr.heap.size) := by
  obtain ⟨a, b, c⟩ := h.app hu1 hu
  refine ⟨(h.gm.next hu1 hr hk hv hu).kept (G := (· = cb)) ((Upd.refl (fun b => b = cb) w3).setCell (a := ⟨cb, 3, none⟩) (fun _ => rfl) v3) (fun t e => by subst e; exact h.own) (fun t e _ => by subst e; exact ⟨_, a, by decide, by decide⟩), h.own, a.set _ _, b.aside (.inr (by omega)) _, ?_⟩
  exact (c.set (i := 0) (by omega) v3).congr fun i hi => by simp; omega
end NewIn

set_option maxHeartbeats 400000 in
theorem group_any (cb D L G j s t : Nat) (hL : 1 ≤ L) (hD : D ≤ 12) (hs0 : 0 < s) (hs : s = D / L) (ht : t = j / s) (hj : j < 100) (w : World) (hp : Row w cb 0 3 (pcells D L G)) :
    Calls Tryd.prog 45 #[.pointer (some ⟨cb, 0, none⟩), I j] w fun e w' => e = .returned (I t) ∧ ∃ q, w' = w.drewN q := by
  have c0 : w.cell? ⟨cb, 0, none⟩ = some (I D) := hp.cell 0 (by omega)
  have c1 : w.cell? ⟨cb, 1, none⟩ = some (I L) := hp.cell 1 (by omega)
  have hle : s ≤ D := hs ▸ Nat.div_le_self _ _
  have hL0 : ¬ L = 0 := by omega
  have hL1 : ¬ (L : Int) = 0 := by omega
  have hs1 : ¬ s = 0 := by omega
  have hs2 : ¬ (s : Int) = 0 := by omega
  have hq : IntKind.i64.wrap ((D : Int).tdiv (L : Int)) = (s : Int) := by rw [tdiv_nat, ← hs]; exact wraps_i64 _ (by omega) (by omega)
  have hq2 : IntKind.i64.wrap ((j : Int).tdiv (s : Int)) = (t : Int) := by
    have : t ≤ j := ht ▸ Nat.div_le_self _ _
    rw [tdiv_nat, ← ht]; exact wraps_i64 _ (by omega) (by omega)
  have w64 : ∀ x : Int, wrap64 x = IntKind.i64.wrap x := fun x => by rw [IntKind.wrap_i64]; unfold wrap64; rfl
  have hq' : wrap64 ((D : Int) / (L : Int)) = (s : Int) := by rw [w64, ← Int.tdiv_eq_ediv_of_nonneg (by omega), hq]
  have hq3 : wrap64 ((j : Int) / (s : Int)) = (t : Int) := by rw [w64, ← Int.tdiv_eq_ediv_of_nonneg (by omega), hq2]
  have n3 : ¬ wrap64 ((D : Int) / (L : Int)) = 0 := by rw [hq']; omega
  have E : Ending.returned (.int .i64 (wrap64 ((j : Int) / wrap64 ((D : Int) / (L : Int))))) = .returned (I t) := by rw [hq', hq3]
  have HE := Lib.hid E
  clear w64 hq hq2 hq' hq3 E
  clear hp hs ht
  go_enter Tryd.func45, Tryd.ntmps45
  go_wp2_with fail
  go_quiet (fail)
  go_wp2_with fail
  go_ret
  exact ⟨HE.out, _, rfl⟩

def NewBad (w : World) (e : Ending) (w' : World) : Prop := e = .returned (.tuple #[.pointer none, .iface 33 (I 1)]) ∧ Below w.heap.size w w'

set_option maxHeartbeats 1000000 in
theorem new_bad (D L G : Int) (h : ¬ RightI D L G) (w : World) : Calls Tryd.prog 29 #[PV D L G] w (NewBad w) := by
  have hb0 : Below w.heap.size w (w.alloc (.cells #[I D, I L, I G] 23)) := (Below.refl _ _).alloc (Nat.le_refl _) _
  have HB := Lib.hid hb0
  clear hb0
  by_cases h1 : D < 1
  · clear h
    go_enter Tryd.func29, Tryd.ntmps29
    go_wp2_with fail
    go_returns
    exact ⟨rfl, HB.out⟩
  by_cases h2 : 12 < D
  · clear h
    go_enter Tryd.func29, Tryd.ntmps29
    go_wp2_with fail
    go_returns
    exact ⟨rfl, HB.out⟩
  by_cases h3 : L < 1
  · clear h
    go_enter Tryd.func29, Tryd.ntmps29
    go_wp2_with fail
    go_returns
    exact ⟨rfl, HB.out⟩
  by_cases h4 : 4 < L
  · clear h
    go_enter Tryd.func29, Tryd.ntmps29
    go_wp2_with fail
    go_returns
    exact ⟨rfl, HB.out⟩
  by_cases h5 : G < 0
  · clear h
    go_enter Tryd.func29, Tryd.ntmps29
    go_wp2_with fail
    go_returns
    exact ⟨rfl, HB.out⟩
  by_cases h6 : 4 < G
  · clear h
    go_enter Tryd.func29, Tryd.ntmps29
    go_wp2_with fail
    go_returns
    exact ⟨rfl, HB.out⟩
  have hL0 : L ≠ 0 := by omega
  by_cases h7 : D % L = 0
  · have h8 : 16 < D + L + G := by
      rcases Int.lt_or_le 16 (D + L + G) with h8 | h8
      · exact h8
      · exact absurd (rightI_of h1 h2 h3 h4 h5 h6 h7 h8) h
    clear h
    go_enter Tryd.func29, Tryd.ntmps29
    go_wp2_with (go_at_call 44; refine (shards_any D L G (by omega) _).mono ?_; rintro e w1 ⟨rfl, hb⟩; have HB2 := Lib.hid hb; clear hb)
    go_returns
    exact ⟨rfl, HB.out.trans (HB2.out.mono (by simp))⟩
  · clear h
    go_enter Tryd.func29, Tryd.ntmps29
    go_wp2_with fail
    go_returns
    exact ⟨rfl, HB.out⟩
end Go.Proofs.YthaamnjpjkkolabDoor
