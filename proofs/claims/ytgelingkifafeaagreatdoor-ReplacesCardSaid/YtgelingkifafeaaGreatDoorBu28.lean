import Derived.Test.YtgelingkifafeaaGreatDoorBu27
import Derived.Test.YtgelingkifafeaaGreatDoorBu11
import Derived.Test.YtgelingkifafeaaGreatDoorBu14
/- The rows of a set: Of, Whole. -/
namespace Go.Proofs.YtgelingkifafeaaGreatDoor
open Go.RowKit Go.Proofs Lin Go.Shelf
set_option maxRecDepth 100000
set_option linter.unusedVariables false

attribute [local go_sem] Oper.semAt_some

set_option maxHeartbeats 400000 in
theorem shards_in (F : Fence) (n : Nat) (hF : F.fn 15) (hro : F.round = none) (D L G : Int) (h : 0 ≤ D ∧ D ≤ 1000 ∧ 0 ≤ L ∧ L ≤ 1000 ∧ 0 ≤ G ∧ G ≤ 1000) (w : World) :
    CallsIn F n Tryz.prog 15 #[PV D L G] w fun e w' => e = .returned (I (D + L + G)) ∧ Below w.heap.size w w' := by
  obtain ⟨h1, h2, h3, h4, h5, h6⟩ := h
  refine callsIn_of_wp Tryz.func15 rfl hF ?_ hro
  simp only [Tryz.ntmps15, List.size_toArray, List.length_cons, List.length_nil, Nat.reduceAdd, Nat.reduceSub, Array.replicate_succ, Array.replicate_zero, List.push_toArray, List.append_toArray, List.nil_append, List.cons_append]
  gi_wp2
  go_ret
  exact ⟨rfl, (Below.refl _ _).alloc (Nat.le_refl _) _⟩

theorem bxBelow {W W' : World} {n B : Nat} {t : TypeId} {v : Value} (h : Boxed W B t v) (hb : Below n W W') (hn : B < n) : Boxed W' B t v := (hb.block B hn).trans h
theorem bxKd {W : World} {B : Nat} {t : TypeId} {v : Value} (h : Boxed W B t v) : Kd W B t := ⟨_, h⟩
theorem Upd.of_drew {G : Nat → Prop} {W W' : World} (h : Upd G W.drew W') : Upd G W W' := ⟨h.os, h.tape, h.output, h.size, h.block⟩
theorem bxUpd {W W' : World} {G : Nat → Prop} {B : Nat} {t : TypeId} {v : Value} (h : Boxed W B t v) (hu : Upd G W W') (hg : ¬ G B) : Boxed W' B t v := (hu.block B h.lt hg).trans h
theorem boxed_own' {α : Type} (B : Nat) (t : TypeId) (v : Value) : Own (fun (_ : α) W => Boxed W B t v) := fun s X Y row hs hg hrow =>
  hs.kept hg (fun e' => by obtain ⟨o, ho, hc⟩ := hrow B e'.symm; rw [show X.heap[B]? = _ from hs] at ho; cases ho; cases hc)

theorem vcCells {w : World} {base e : Nat} {v : Value} {n : Nat} {f : Nat → Value} (h : Vc w base e v n f) {k : Nat} (hk : v.ownBlock = some k) : ∃ c, w.heap[k]? = some (.cells c e (0, 0)) := by
  rcases h.2 with ⟨rfl, _⟩ | ⟨g, cap, cur, rfl, _, hg, _⟩
  · simp [Value.ownBlock] at hk
  · obtain rfl : g = k := by simpa [Value.ownBlock] using hk
    exact ⟨cur, hg⟩
theorem getD_snoc (l : List Nat) (a j : Nat) : (l ++ [a]).getD j 0 = if j < l.length then l.getD j 0 else if j = l.length then a else 0 := by
  simp only [List.getD_eq_getElem?_getD]
  by_cases h : j < l.length
  · rw [if_pos h, List.getElem?_append_left h]
  · rw [if_neg h, List.getElem?_append_right (by omega)]
    by_cases e : j = l.length
    · rw [if_pos e]; simp [e]
    · rw [if_neg e, List.getElem?_eq_none (by simp; omega)]; rfl
theorem cell_alloc {W : World} {p : Addr} {v : Value} (h : W.cell? p = some v) (o : Obj) : (W.alloc o).cell? p = some v :=
  (World.cell?_of_block (Deep.blk_alloc_lt _ _ _ (World.block_lt_of_cell? _ _ h))).trans h

/-- The end of a round of Of. -/
theorem of_round {base bo bx bc : Nat} {W w3 : World} {v' v3 vC vX : Value} {D n : Nat} {f g : Nat → Value} {w : World} (hbase : base = w.heap.size) (hv : Boxed W bo 122 v') (hrow : Vc W base 49 v' n f) (hC : Boxed W bc 79 vC) (hX : Boxed W bx 84 vX)
    (hB : Below w.heap.size w W) (hbo : base ≤ bo) (h1 : bo ≠ bc) (h2 : bo ≠ bx) (hv3 : Vc w3 base 49 v3 (n + 1) g) (hu3 : Upd (fun b => some b = v'.ownBlock) W w3) (B : Nat) :
    KeepsFrom B W (w3.setCell ⟨bo, 0, none⟩ v3) ∧ KpX w.heap.size bx W (w3.setCell ⟨bo, 0, none⟩ v3) ∧ (∃ v, Boxed (w3.setCell ⟨bo, 0, none⟩ v3) bo 122 v ∧ Vc (w3.setCell ⟨bo, 0, none⟩ v3) base 49 v (n + 1) g) ∧
      Boxed (w3.setCell ⟨bo, 0, none⟩ v3) bc 79 vC ∧ Boxed (w3.setCell ⟨bo, 0, none⟩ v3) bx 84 vX ∧ Below w.heap.size w (w3.setCell ⟨bo, 0, none⟩ v3) := by
  have hsz : base ≤ W.heap.size := hbase ▸ hB.size
  have no : ¬ some bo = v'.ownBlock := fun e => hrow.block_ne (bxKd hv) (by decide) bo e.symm rfl
  have nC : ¬ some bc = v'.ownBlock := fun e => hrow.block_ne (bxKd hC) (by decide) bc e.symm rfl
  have nX : ¬ some bx = v'.ownBlock := fun e => hrow.block_ne (bxKd hX) (by decide) bx e.symm rfl
  have hv' := bxUpd hv hu3 no
  have hu4 : Upd (fun b => some b = v'.ownBlock ∨ b = bo) W (w3.setCell ⟨bo, 0, none⟩ v3) := (hu3.mono fun b _ e => .inl e).setCell (a := ⟨bo, 0, none⟩) (fun _ => .inr rfl) v3
  have hbel : Below w.heap.size W (w3.setCell ⟨bo, 0, none⟩ v3) := hu4.below (fun b e => by
    rcases e with e | e
    · have := (hrow.lt b e.symm).1; omega
    · omega) (by omega)
  refine ⟨⟨hu4.size, fun k o _ hk ho => (hu4.block k (Array.getElem?_eq_some_iff.1 hk).1 fun e => ?_).trans hk⟩, ⟨hbel, fun o ho => ?_⟩, ⟨v3, hv'.set v3, hv3.kept ((Upd.refl (fun b => b = bo) w3).setCell (a := ⟨bo, 0, none⟩) (fun _ => rfl) v3) fun t ht e => ?_⟩, bxUpd hC hu4 ?_, bxUpd hX hu4 ?_, hB.trans hbel⟩
  · rcases e with e | e
    · obtain ⟨c, hc⟩ := vcCells hrow e.symm
      rw [hc] at hk; cases hk; cases ho
    · subst e
      rw [show W.heap[k]? = _ from hv] at hk; cases hk; cases ho
  · exact (hu4.block bx hX.lt (fun e => by rcases e with e | e; exact nX e; exact h2 e.symm)).trans ho
  · exact hv3.block_ne (bxKd hv') (by decide) t ht e
  · rintro (e | e)
    · exact nC e
    · exact h1 e.symm
  · rintro (e | e)
    · exact nX e
    · exact h2 e.symm

/-- What Of has put together: the rows at the places of a list. -/
def Got (base bo : Nat) (D : Nat) (β : Nat → Nat) (pre : List Nat) (W : World) : Prop :=
  ∃ v, Boxed W bo 122 v ∧ Vc W base 49 v pre.length (fun t => .slice (some ⟨β (pre.getD t 0), 0, none⟩) D D)

theorem got_own {α : Type} (f : α → List Nat) (base bo D : Nat) (β : Nat → Nat) : Own (fun (s : α) W => Got base bo D β (f s) W) := by
  intro s X Y row hs hg hrow
  obtain ⟨v, h1, h2, h3⟩ := holdsRow_own (β := List Nat) base bo 122 49 1 (fun pre => pre.length) (fun pre => (List.range pre.length).map fun t => .slice (some ⟨β (pre.getD t 0), 0, none⟩) D D) (fun _ _ => True) (f s) X Y row (by obtain ⟨v, h1, h2⟩ := hs; exact ⟨v, h1, h2, trivial⟩) hg hrow
  exact ⟨v, h1, h2⟩

def OfEnd (w : World) (D L G x : Nat) (β : Nat → Nat) (e : Ending) (w' : World) : Prop :=
  ∃ vo, e = .returned vo ∧ Vc w' w.heap.size 49 vo (sel (D + L + G) x.testBit).length (fun t => .slice (some ⟨β ((sel (D + L + G) x.testBit).getD t 0), 0, none⟩) D D) ∧ Below w.heap.size w w'

set_option maxHeartbeats 2000000 in
theorem of_in (F : Fence) (n : Nat) (f1 : F.fn 88) (f2 : F.fn 63) (f3 : F.fn 86) (f4 : F.fn 80) (f5 : F.fn 15) (hro : F.round = none) (hn : 3 ≤ n)
    (w0 : World) (cb D L G x : Nat) (v : Value) (β : Nat → Nat) (w : World) (hC : CodeAt w0 w cb D L G v β) (hR : Right D L G) (hx : x < 2 ^ 64) :
    CallsIn F n Tryz.prog 88 #[.pointer (some ⟨cb, 0, none⟩), U x] w (OfEnd w D L G x β) := by
  have h1 := hR.d1; have h2 := hR.d2; have h3 := hR.l1; have h4 := hR.l2; have h5 := hR.g2; have h7 := hR.sum
  clear hR
  have n1 : 1 ≤ n := by omega
  have HC := Lib.hid hC
  clear hC
  have hcb : cb < w.heap.size := HC.out.kd.lt
  have c0 : w.cell? ⟨cb, 0, none⟩ = some (I D) := HC.out.par.cell 0 (by omega)
  have c1 : w.cell? ⟨cb, 1, none⟩ = some (I L) := HC.out.par.cell 1 (by omega)
  have c2 : w.cell? ⟨cb, 2, none⟩ = some (I G) := HC.out.par.cell 2 (by omega)
  refine callsIn_of_wp_marks Tryz.func88 rfl f1 ?_ hro
  simp only [Tryz.ntmps88, List.size_toArray, List.length_cons, List.length_nil, Nat.reduceAdd, Nat.reduceSub, Array.replicate_succ, Array.replicate_zero, List.push_toArray, List.append_toArray, List.nil_append, List.cons_append]
  have hN : ((D : Int) + (L : Int) + (G : Int)) = ((D + L + G : Nat) : Int) := by simp
  have HNN := Lib.hid hN
  clear hN
  gi_wp2_with (first | (gi_at_call 15; refine (shards_in F (n - 1) f5 hro D L G (by omega) _).mono ?_; rintro e w1 ⟨rfl, hb⟩; have HB := Lib.hid hb; clear hb; rw [HNN.out]) | (gi_at_call 63; refine (all_in F (n - 1) f2 hro x (D + L + G) _).mono ?_; rintro e w2 ⟨rfl, rfl⟩))
  obtain ⟨va, vb, vc, hv, hva, hvr, _, _, _⟩ := HC.out.gm.vc.shape
  obtain rfl := hva (by omega)
  have c3 : w.cell? ⟨cb, 3, none⟩ = some (.slice (some ⟨vb, 0, none⟩) (D + L + G) vc) := by have := HC.out.at3.cell 0 (by omega); rw [← hv]; simpa using this
  have HR := Lib.hid hvr.rd
  clear hv hvr hva
  have hs1 := HB.out.size
  rw [World.size_alloc, World.size_alloc] at hs1
  have HB1 := Lib.hid (show Below w.heap.size w w1 from (((Below.refl _ w).alloc (Nat.le_refl _) _).alloc (by simp) _).trans (HB.out.mono (by simp; omega)))
  have bC := Lib.hid (bxBelow ((Boxed.new w 79 (.pointer (some ⟨cb, 0, none⟩))).alloc (.cells #[.slice none 0 0] 122)) HB.out (by simp; omega))
  have bM := Lib.hid (show Boxed w1 (w.heap.size + 1) 122 (.slice none 0 0) from by have h := bxBelow (Boxed.new (w.alloc (.cells #[.pointer (some ⟨cb, 0, none⟩)] 79)) 122 (.slice none 0 0)) HB.out (by simp); rwa [World.size_alloc] at h)
  have bX := Lib.hid ((Boxed.new w1 84 (U x)).alloc (.cells #[I ((D : Int) + (L : Int) + (G : Int))] 3))
  have bN := Lib.hid (show Boxed ((w1.alloc (.cells #[U x] 84)).alloc (.cells #[I ((D : Int) + (L : Int) + (G : Int))] 3)) (w1.heap.size + 1) 3 (I ((D : Int) + (L : Int) + (G : Int))) from by have h := Boxed.new (w1.alloc (.cells #[U x] 84)) 3 (I ((D : Int) + (L : Int) + (G : Int))); rwa [World.size_alloc] at h)
  refine wpIn_rangeFunc_ownG hro n1 (gf := 86) (lb := #[.pointer (some ⟨w1.heap.size + 1, 0, none⟩), .pointer (some ⟨w1.heap.size, 0, none⟩)]) rfl f3 (enters_of Tryz.func86 (by kernel_rfl) rfl)
    (all_stops F (n - 1) f3 f4 hro (by omega) (w1.heap.size + 1) w1.heap.size (D + L + G) x hx (by omega) (KpX w.heap.size w1.heap.size) (fun A B h hc => h.cell hc) _ (by simp) (by simp; omega) (by rw [← HNN.out]; exact bN.out.cell) bX.out.cell)
    KpX.t (KpX.b (by simp; omega) (by simp; omega)) (Below.refl _ _) (fun _ => rfl)
    (fun (pre : List {i : Nat // i < D + L + G}) W => (Got w.heap.size (w.heap.size + 1) D β (pre.map (·.1)) W ∧ Boxed W w.heap.size 79 (.pointer (some ⟨cb, 0, none⟩)) ∧ Boxed W w1.heap.size 84 (U x)) ∧ Below w.heap.size w W)
    (fun _ _ _ => False)
    (OwnFrom.and (OwnFrom.and (Own.from (got_own (fun pre : List {i : Nat // i < D + L + G} => pre.map (·.1)) _ _ _ _) _) (OwnFrom.and (Own.from (boxed_own' _ _ _) _) (Own.from (boxed_own' _ _ _) _))) (ownFrom_below (Nat.le_refl _) (by simp; omega)))
    (fun _ _ _ _ _ hs _ _ => hs)
    ⟨⟨⟨_, (bM.out.alloc _).alloc _, Vc.nil _ _ _ _⟩, (bC.out.alloc _).alloc _, bX.out⟩, (HB1.out.alloc (by omega) _).alloc (by simp; omega) _⟩
    (fun i => { tmps := #[.pointer (some ⟨cb, 0, none⟩), U x, .pointer (some ⟨w.heap.size, 0, none⟩), undef, .slice none 0 0, .pointer (some ⟨w.heap.size + 1, 0, none⟩), I (i.1 : Nat), U x, .pointer (some ⟨cb, 0, none⟩), .pointer (some ⟨cb, 0, none⟩), .pointer (some ⟨cb, 0, none⟩), .agg #[I D, I L, I G], I ((D : Int) + (L : Int) + (G : Int)), .func (.func 86) #[] #[.pointer (some ⟨w1.heap.size + 1, 0, none⟩), .pointer (some ⟨w1.heap.size, 0, none⟩)], I (i.1 : Nat), undef, undef, undef, undef, undef, undef, undef, undef, undef, undef, undef], defers := [] }) ?assign ?body ?done ?stop
  case assign =>
    intro l i W K hK
    gi_wp2
    exact hK
  case body =>
    rintro l pre i W ⟨⟨⟨v', hv, hrow⟩, hC', hX⟩, hB⟩ hlt
    have hi := i.2
    generalize hiv : i.1 = iv at *
    have cM : W.cell? ⟨w.heap.size + 1, 0, none⟩ = some v' := hv.cell
    have fM : W.frozen? ⟨w.heap.size + 1, 0, none⟩ = false := hv.frozen
    have cC : W.cell? ⟨w.heap.size, 0, none⟩ = some (.pointer (some ⟨cb, 0, none⟩)) := hC'.cell
    have c3' : W.cell? ⟨cb, 3, none⟩ = some (.slice (some ⟨vb, 0, none⟩) (D + L + G) vc) := (hB.cell (p := ⟨cb, 3, none⟩) hcb).trans c3
    have cR : W.cell? ⟨vb, iv, none⟩ = some (.slice (some ⟨β iv, 0, none⟩) D D) := by
      have h := (HR.out.later hB) iv hi
      rwa [Nat.zero_add] at h
    have hpl : pre.length < 64 := by have := sel_len (D + L + G) x.testBit; omega
    have hsz : w.heap.size ≤ W.heap.size := hB.size
    gi_wp2_with fail
    refine wpIn_region_held_tail 8 (fun W2 => W2.cell? ⟨w.heap.size + 1, 0, none⟩ = some v' ∧ W2.cell? ⟨w.heap.size, 0, none⟩ = some (.pointer (some ⟨cb, 0, none⟩)) ∧ W2.cell? ⟨cb, 3, none⟩ = some (.slice (some ⟨vb, 0, none⟩) (D + L + G) vc) ∧ W2.cell? ⟨vb, iv, none⟩ = some (.slice (some ⟨β iv, 0, none⟩) D D)) mixed (by kernel_rfl) (by kernel_rfl) (fun ⟨_, _, h⟩ => h) (fun _ _ _ _ _ h => h) ⟨cM, cC, c3', cR⟩ ?_
    simp only [List.take_succ_cons, List.take_zero, List.drop_succ_cons, List.drop_zero]
    refine ⟨v', Or.inl ⟨by rfl, ?_⟩, ?_⟩
    · rintro w2 ⟨s1, s2, s3, s4⟩; go_simp
    refine ⟨.pointer (some ⟨cb, 0, none⟩), Or.inl ⟨by rfl, ?_⟩, ?_⟩
    · rintro w2 ⟨s1, s2, s3, s4⟩; go_simp
    refine ⟨.pointer (some ⟨cb, 0, none⟩), Or.inl ⟨by rfl, ?_⟩, ?_⟩
    · rintro w2 ⟨s1, s2, s3, s4⟩; go_simp
    refine ⟨.pointer (some ⟨cb, 3, none⟩), Or.inl ⟨by rfl, ?_⟩, ?_⟩
    · rintro w2 ⟨s1, s2, s3, s4⟩; go_simp
    refine ⟨.slice (some ⟨vb, 0, none⟩) (D + L + G) vc, Or.inl ⟨by rfl, ?_⟩, ?_⟩
    · rintro w2 ⟨s1, s2, s3, s4⟩; go_simp
    refine ⟨I iv, Or.inl ⟨by rfl, ?_⟩, ?_⟩
    · rintro w2 ⟨s1, s2, s3, s4⟩; go_simp
    refine ⟨.pointer (some ⟨vb, iv, none⟩), Or.inl ⟨by rfl, ?_⟩, ?_⟩
    · rintro w2 ⟨s1, s2, s3, s4⟩; go_simp; intro h; omega
    refine ⟨.slice (some ⟨β iv, 0, none⟩) D D, Or.inl ⟨by rfl, ?_⟩, ?_⟩
    · rintro w2 ⟨s1, s2, s3, s4⟩; go_simp
    simp only [wpReads]
    refine wpOp_of (i := 8) rfl ?_ ?_
    · rfl
    go_simp
    rw [List.length_map] at hrow
    refine ⟨⟨cell_alloc cM _, cell_alloc cC _, cell_alloc c3' _, cell_alloc cR _⟩, ?_⟩
    refine wpList_append_one (w := W.drew) rfl (.tmp 15) (.tmp 23) 122 rfl w.heap.size 49 (.slice none 0 0) 24 Tryz.underlying122 infoBs rfl v' pre.length _ rfl hrow (.slice (some ⟨β iv, 0, none⟩) D D) _ rfl rfl (by omega) (by omega) hsz ?_
    intro v3 w3 hv3 hu3
    have no : ¬ some (w.heap.size + 1) = v'.ownBlock := fun e => hrow.block_ne (bxKd hv) (by decide) _ e.symm rfl
    have hv' : Boxed w3 (w.heap.size + 1) 122 v' := bxUpd (W := W.drew) hv hu3 no
    obtain ⟨va3, vb3, vc3, rfl, hva3, _⟩ := hv3.shape
    obtain rfl := hva3 (by omega)
    have c5 := hv'.cell
    have f5 := hv'.frozen
    have HE := Lib.hid (of_round (base := w.heap.size) (D := D) (w := w) rfl hv hrow hC' hX hB (by omega) (by omega) (by omega) hv3 (hu3.of_drew) (w1.heap.size + 1 + 1))
    clear hv3 hu3 hv' no hrow hv hC' hX
    go_wp2
    obtain ⟨e1, e2, ⟨u, e3, e4⟩, e5, e6, e7⟩ := HE.out
    refine ⟨e1, e2, ⟨⟨u, e3, ?_⟩, e5, e6⟩, e7⟩
    show Vc _ _ _ u ((pre ++ [i]).map (·.1)).length (fun t => .slice (some ⟨β (((pre ++ [i]).map (·.1)).getD t 0), 0, none⟩) D D)
    have hl : pre.length = (pre.map (·.1)).length := (List.length_map ..).symm
    rw [List.map_append, List.length_append, ← hl]
    refine e4.congr fun j hj => ?_
    rw [show ([i].map (·.1) : List Nat) = [iv] by rw [List.map_cons, hiv]; rfl, getD_snoc, ← hl]
    by_cases h : j < pre.length
    · rw [if_pos h, if_pos h]
    · rw [if_neg h, if_neg h, if_pos (by omega)]
  case done =>
    rintro Dd ys W hD hys ⟨⟨⟨v', hv, hrow⟩, hC', hX⟩, hB⟩ hK
    have hc := hv.cell
    gi_wp2
    refine ⟨by simp, .inl ⟨_, _, rfl, run_takeDeferred hK, ?_⟩⟩
    have hys' : ys.map (·.1) = sel (D + L + G) x.testBit := hys
    refine ⟨_, results_tmp rfl _ _ _, v', rfl, ?_, hB.trans (belowK_b (w := w) (Nat.le_refl _) W Dd _ _ (by simp at hD; omega) hK rfl rfl)⟩
    rw [← hys']
    exact ownsRow_putObj hrow _ hK rfl
  case stop =>
    rintro Dd c pre W _ _ h _
    exact h.elim
end Go.Proofs.YtgelingkifafeaaGreatDoor
