import Derived.Test.YthaamnjpjkkolabDoorSub
import Derived.Laws.EntriesVeiled
/- subsets: what it hands back goes through the sets of so many shards. -/
namespace Go.Proofs.YthaamnjpjkkolabDoor
open Go.RowKit Go.Proofs Lin Go.Shelf
set_option maxRecDepth 100000
set_option linter.unusedVariables false

attribute [local go_sem] Oper.semAt_some

theorem keepsFrom_upd {W W' : World} {G : Nat → Prop} (hu : Upd G W W') (hG : ∀ b, G b → ∃ c t f, W.heap[b]? = some (.cells c t f)) (B : Nat) : KeepsFrom B W W' :=
  ⟨hu.size, fun k o _ hk ho => (hu.block k (Array.getElem?_eq_some_iff.1 hk).1 fun e => by obtain ⟨c, t, f, h⟩ := hG k e; rw [h] at hk; cases hk; cases ho).trans hk⟩
theorem kpX_upd {W W' : World} {G : Nat → Prop} {n₀ bx : Nat} (hu : Upd G W W') (hx : bx < W.heap.size) (hG : ¬ G bx) (hb : Below n₀ W W') : KpX n₀ bx W W' :=
  ⟨hb, fun o ho => (hu.block bx hx hG).trans ho⟩
theorem Vc.cells {w : World} {base e n : Nat} {v : Value} {f : Nat → Value} (h : Vc w base e v n f) : ∀ b, some b = v.ownBlock → ∃ c t f, w.heap[b]? = some (.cells c t f) := fun b e => by
  obtain ⟨c, hc⟩ := vcCells h e.symm
  exact ⟨_, _, _, hc⟩
theorem Boxed.cells {w : World} {b t : Nat} {v : Value} (h : Boxed w b t v) : ∃ c t f, w.heap[b]? = some (.cells c t f) := ⟨_, _, _, h⟩

/-- What was put together: the numbers of a list. -/
def GotI (base bo : Nat) (pre : List Nat) (W : World) : Prop :=
  ∃ v, Boxed W bo 149 v ∧ Vc W base 3 v pre.length (fun t => I (pre.getD t 0 : Nat))
theorem gotI_own {α : Type} (f : α → List Nat) (base bo : Nat) : Own (fun (s : α) W => GotI base bo (f s) W) := by
  intro s X Y row hs hg hrow
  obtain ⟨v, h1, h2, h3⟩ := holdsRow_own (β := List Nat) base bo 149 3 1 (fun pre => pre.length) (fun pre => (List.range pre.length).map fun t => I (pre.getD t 0 : Nat)) (fun _ _ => True) (f s) X Y row (by obtain ⟨v, h1, h2⟩ := hs; exact ⟨v, h1, h2, trivial⟩) hg hrow
  exact ⟨v, h1, h2⟩

def SubsEnd (w : World) (all : List Nat) (size : Nat) (e : Ending) (w' : World) : Prop :=
  ∃ ab fb sb vb vc a, e = .returned (.func (.func 80) #[] #[.pointer (some ⟨fb, 0, none⟩), .pointer (some ⟨sb, 0, none⟩)]) ∧
    SubIn w'.heap.size w' ab fb all a vb vc ∧ w'.cell? ⟨sb, 0, none⟩ = some (I size) ∧ sb < w'.heap.size ∧ Below w.heap.size w w'

set_option maxHeartbeats 2000000 in
theorem subsets_any (x N size : Nat) (hx : x < 2 ^ 64) (hN : N < 64) (w : World) :
    Calls Tryd.prog 70 #[U x, I N, I size] w (SubsEnd w (sel N x.testBit) size) := by
  refine (callsIn_wide (n := 3)).1 (callsIn_of_wp_marks Tryd.func70 rfl trivial ?_ rfl)
  simp only [Tryd.ntmps70, List.size_toArray, List.length_cons, List.length_nil, Nat.reduceAdd, Nat.reduceSub, Array.replicate_succ, Array.replicate_zero, List.push_toArray, List.append_toArray, List.nil_append, List.cons_append]
  gi_wp2_with (refine ⟨trivial, ?_⟩; gi_at_call 58; refine (all_in Fence.wide (3 - 1) trivial rfl x N _).mono ?_; rintro e w2 ⟨rfl, rfl⟩)
  have bS := Lib.hid ((((Boxed.new w 3 (I size)).alloc (.cells #[.slice none 0 0] 149)).alloc (.cells #[U x] 91)).alloc (.cells #[I N] 3))
  have bM := Lib.hid (show Boxed ((((w.alloc (.cells #[I size] 3)).alloc (.cells #[.slice none 0 0] 149)).alloc (.cells #[U x] 91)).alloc (.cells #[I N] 3)) (w.heap.size + 1) 149 (.slice none 0 0) from by
    have h := ((Boxed.new (w.alloc (.cells #[I size] 3)) 149 (.slice none 0 0)).alloc (.cells #[U x] 91)).alloc (.cells #[I N] 3); rwa [World.size_alloc] at h)
  have bX := Lib.hid (show Boxed ((((w.alloc (.cells #[I size] 3)).alloc (.cells #[.slice none 0 0] 149)).alloc (.cells #[U x] 91)).alloc (.cells #[I N] 3)) (w.heap.size + 2) 91 (U x) from by
    have h := (Boxed.new ((w.alloc (.cells #[I size] 3)).alloc (.cells #[.slice none 0 0] 149)) 91 (U x)).alloc (.cells #[I N] 3); rwa [World.size_alloc, World.size_alloc] at h)
  have bN := Lib.hid (show Boxed ((((w.alloc (.cells #[I size] 3)).alloc (.cells #[.slice none 0 0] 149)).alloc (.cells #[U x] 91)).alloc (.cells #[I N] 3)) (w.heap.size + 3) 3 (I N) from by
    have h := Boxed.new (((w.alloc (.cells #[I size] 3)).alloc (.cells #[.slice none 0 0] 149)).alloc (.cells #[U x] 91)) 3 (I N); rwa [World.size_alloc, World.size_alloc, World.size_alloc] at h)
  have HB := Lib.hid (show Below w.heap.size w ((((w.alloc (.cells #[I size] 3)).alloc (.cells #[.slice none 0 0] 149)).alloc (.cells #[U x] 91)).alloc (.cells #[I N] 3)) from
    ((((Below.refl _ w).alloc (Nat.le_refl _) _).alloc (by simp) _).alloc (by simp; omega) _).alloc (by simp; omega) _)
  have hsz : ((((w.alloc (.cells #[I size] 3)).alloc (.cells #[.slice none 0 0] 149)).alloc (.cells #[U x] 91)).alloc (.cells #[I N] 3)).heap.size = w.heap.size + 4 := by simp
  generalize (((w.alloc (.cells #[I size] 3)).alloc (.cells #[.slice none 0 0] 149)).alloc (.cells #[U x] 91)).alloc (.cells #[I N] 3) = W0 at *
  refine wpIn_rangeFunc_ownG rfl (by omega) (gf := 73) (lb := #[.pointer (some ⟨w.heap.size + 1 + 1 + 1, 0, none⟩), .pointer (some ⟨w.heap.size + 1 + 1, 0, none⟩)]) rfl trivial (enters_of Tryd.func73 (by kernel_rfl) rfl)
    (all_stops Fence.wide (3 - 1) trivial trivial rfl (by omega) (w.heap.size + 1 + 1 + 1) (w.heap.size + 1 + 1) N x hx hN (KpX w.heap.size (w.heap.size + 1 + 1)) (fun A B h hc => h.cell hc) W0 (by omega) (by omega) bN.out.cell bX.out.cell)
    KpX.t (KpX.b (by omega) (by omega)) (Below.refl _ _) (fun _ => rfl)
    (fun (pre : List {i : Nat // i < N}) W => (GotI (w.heap.size + 1) (w.heap.size + 1) (pre.map (·.1)) W ∧ Boxed W w.heap.size 3 (I size) ∧ Boxed W (w.heap.size + 1 + 1) 91 (U x)) ∧ Below w.heap.size w W)
    (fun _ _ _ => False)
    (OwnFrom.and (OwnFrom.and (Own.from (gotI_own (fun pre : List {i : Nat // i < N} => pre.map (·.1)) _ _) _) (OwnFrom.and (Own.from (boxed_own' _ _ _) _) (Own.from (boxed_own' _ _ _) _))) (ownFrom_below (Nat.le_refl _) (by omega)))
    (fun _ _ _ _ _ hs _ _ => hs)
    ⟨⟨⟨_, bM.out, Vc.nil _ _ _ _⟩, bS.out, bX.out⟩, HB.out⟩
    (fun i => { tmps := #[U x, I N, I size, undef, undef, .pointer (some ⟨w.heap.size, 0, none⟩), .nilFunc, .pointer (some ⟨w.heap.size + 1, 0, none⟩), I (i.1 : Nat), undef, U x, I N,
      .func (.func 73) #[] #[.pointer (some ⟨w.heap.size + 1 + 1 + 1, 0, none⟩), .pointer (some ⟨w.heap.size + 1 + 1, 0, none⟩)], I (i.1 : Nat), undef, undef, undef, undef, undef, undef], defers := [] }) ?assign ?body ?done ?stop
  case assign =>
    intro l i W K hK
    gi_wp2
    exact hK
  case body =>
    rintro l pre i W ⟨⟨⟨v', hv, hrow⟩, hS', hX⟩, hB⟩ hlt
    have hi := i.2
    generalize hiv : i.1 = iv at *
    have cM : W.cell? ⟨w.heap.size + 1, 0, none⟩ = some v' := hv.cell
    have fM : W.frozen? ⟨w.heap.size + 1, 0, none⟩ = false := hv.frozen
    have hpl : pre.length < 64 := by have := sel_len N x.testBit; omega
    have hsz2 : w.heap.size + 1 ≤ W.heap.size := by have := hv.lt; omega
    have HV := Lib.hid hv
    have HS := Lib.hid hS'
    have HX := Lib.hid hX
    have HBW := Lib.hid hB
    rw [List.length_map] at hrow
    have HROW := Lib.hid hrow
    clear hv hS' hX hB hrow
    gi_wp2_with (
      gi_at_builtin
      refine stepIn_of_wide (fun ⟨_, _, h⟩ => h) _ _ _ (by kernel_rfl) ?_
      refine wpList_append_one (w := W) rfl (.tmp 14) (.tmp 16) 149 rfl (w.heap.size + 1) 3 (.int .i64 0) 8 Tryd.underlying149 infoInt rfl v' pre.length _ rfl HROW.out (I (iv : Nat)) _ rfl rfl (by omega) (by omega) hsz2 ?_
      intro v3 w3 hv3 hu3
      have no : ¬ some (w.heap.size + 1) = v'.ownBlock := fun e => HROW.out.block_ne (bxKd HV.out) (by decide) _ e.symm rfl
      have hv' : Boxed w3 (w.heap.size + 1) 149 v' := bxUpd HV.out hu3 no
      obtain ⟨va3, vb3, vc3, rfl, hva3, _⟩ := hv3.shape
      obtain rfl := hva3 (by omega)
      have c5 := hv'.cell
      have f5 := hv'.frozen
      have HV3 := Lib.hid hv3
      have HU3 := Lib.hid hu3
      have HV' := Lib.hid hv'
      clear hv3 hu3 hv' no hva3)
    go_wp2
    have no : ¬ some (w.heap.size + 1) = v'.ownBlock := fun e => HROW.out.block_ne (bxKd HV.out) (by decide) _ e.symm rfl
    have hu4 : Upd (fun b => some b = v'.ownBlock ∨ b = w.heap.size + 1) W (w3.setCell ⟨w.heap.size + 1, 0, none⟩ (.slice (some ⟨vb3, 0, none⟩) (pre.length + 1) vc3)) := (HU3.out.mono fun b _ e => .inl e).setCell (a := ⟨w.heap.size + 1, 0, none⟩) (fun _ => .inr rfl) _
    have hbel : Below w.heap.size W (w3.setCell ⟨w.heap.size + 1, 0, none⟩ (.slice (some ⟨vb3, 0, none⟩) (pre.length + 1) vc3)) := hu4.below (fun b e => by
      rcases e with e | e
      · have := (HROW.out.lt b e.symm).1; omega
      · omega) HBW.out.size
    refine ⟨keepsFrom_upd hu4 (fun b e => by rcases e with e | e; exact HROW.out.cells b e; subst e; exact Boxed.cells HV.out) _, kpX_upd hu4 HX.out.lt (fun e => by rcases e with e | e; exact HROW.out.block_ne (bxKd HX.out) (by decide) _ e.symm rfl; omega) hbel,
      ⟨⟨_, HV'.out.set _, ?_⟩, bxUpd HS.out hu4 (fun e => by rcases e with e | e; have := (HROW.out.lt _ e.symm).1; omega; omega), bxUpd HX.out hu4 (fun e => by rcases e with e | e; exact HROW.out.block_ne (bxKd HX.out) (by decide) _ e.symm rfl; omega)⟩, HBW.out.trans hbel⟩
    have hl : pre.length = (pre.map (·.1)).length := (List.length_map ..).symm
    rw [List.map_append, List.length_append, ← hl]
    refine (HV3.out.kept ((Upd.refl (fun b => b = w.heap.size + 1) w3).setCell (a := ⟨w.heap.size + 1, 0, none⟩) (fun _ => rfl) _) fun t ht e => HV3.out.block_ne (bxKd HV'.out) (by decide) t ht e).congr fun j hj => ?_
    rw [show ([i].map (·.1) : List Nat) = [iv] by rw [List.map_cons, hiv]; rfl, getD_snoc, ← hl]
    by_cases h : j < pre.length
    · rw [if_pos h, if_pos h]
    · rw [if_neg h, if_neg h, if_pos (by omega)]
  case done =>
    rintro Dd ys W hD hys ⟨⟨⟨v', hv, hrow⟩, hS', hX⟩, hB⟩ hK
    have hys' : ys.map (·.1) = sel N x.testBit := hys
    have HV := Lib.hid hv
    have HS := Lib.hid hS'
    have HBW := Lib.hid hB
    have HK := Lib.hid hK
    rw [hys'] at hrow
    have HROW := Lib.hid hrow
    clear hv hS' hX hB hrow hys hys' hK
    gi_wp2
    have hkl : Dd < W.heap.size := (Array.getElem?_eq_some_iff.1 HK.out).1
    generalize hob : Obj.cells #[Value.func (Fn.func 79) #[] #[.pointer (some ⟨w.heap.size + 1, 0, none⟩), .pointer (some ⟨W.heap.size, 0, none⟩)]] 154 = o
    have hcF : (W.alloc o).cell? ⟨W.heap.size, 0, none⟩ = some (.func (.func 79) #[] #[.pointer (some ⟨w.heap.size + 1, 0, none⟩), .pointer (some ⟨W.heap.size, 0, none⟩)]) := by rw [← hob]; exact (Boxed.new W _ _).cell
    have hK2 : (W.alloc o).heap[Dd]? = some (.deferred (some [])) := (Deep.blk_alloc_lt _ _ _ hkl).trans HK.out
    have hX : ∀ b, b ≠ Dd → ((W.alloc o).putObj Dd (.deferred none)).heap[b]? = (W.alloc o).heap[b]? := fun b hb => World.putObj_heap_other (by omega)
    have hv4 : Vc ((W.alloc o).putObj Dd (.deferred none)) (w.heap.size + 1) 3 v' (sel N x.testBit).length (fun t => I ((sel N x.testBit).getD t 0 : Nat)) := ownsRow_putObj (HROW.out.alloc o) _ hK2 rfl
    have hbv : Boxed ((W.alloc o).putObj Dd (.deferred none)) (w.heap.size + 1) 149 v' := (hX _ (by omega)).trans (HV.out.alloc o)
    have hbs : Boxed ((W.alloc o).putObj Dd (.deferred none)) w.heap.size 3 (I size) := (hX _ (by omega)).trans (HS.out.alloc o)
    have hz : ((W.alloc o).putObj Dd (.deferred none)).heap.size = W.heap.size + 1 := by rw [World.putObj_size, World.size_alloc]
    have hbel : Below w.heap.size w ((W.alloc o).putObj Dd (.deferred none)) := (HBW.out.alloc HBW.out.size o).trans (belowK_b (w := w) (Nat.le_refl _) _ Dd _ _ (by omega) hK2 rfl rfl)
    obtain ⟨va, vb, vc, rfl, hva, hvr, _, hvb, _⟩ := hv4.shape
    refine ⟨by simp, .inl ⟨_, _, rfl, run_takeDeferred hK2, ?_⟩⟩
    refine ⟨_, results_tmp rfl _ _ _, w.heap.size + 1, W.heap.size, w.heap.size, vb, vc, va, rfl, ⟨by omega, by omega, fun h => (hvb h).2.lt, hbv.cell, hva, hvr.rd, (World.cell?_of_block (a := ⟨W.heap.size, 0, none⟩) (hX W.heap.size (by omega))).trans hcF⟩, hbs.cell, by omega, hbel⟩
  case stop =>
    rintro Dd c pre W _ _ h _
    exact h.elim
end Go.Proofs.YthaamnjpjkkolabDoor
