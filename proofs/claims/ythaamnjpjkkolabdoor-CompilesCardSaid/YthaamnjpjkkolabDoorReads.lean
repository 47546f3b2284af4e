import Derived.Test.YthaamnjpjkkolabDoorSubs
import Derived.Test.YthaamnjpjkkolabDoorSpans
import Derived.Test.YthaamnjpjkkolabDoorLocal
import Derived.WalkMore
/- Which shards are read: reads. -/
namespace Go.Proofs.YthaamnjpjkkolabDoor
open Go.RowKit Go.Proofs Lin Go.Shelf
set_option maxRecDepth 100000
set_option linter.unusedVariables false

attribute [local go_sem] Oper.semAt_some

theorem abides_drew {β : Type} {B : Nat} {J : β → World → Prop} (h : AbidesFrom B J) (s : β) (W : World) (hs : J s W) : J s W.drew :=
  h s W W.drew none hs ⟨rfl, rfl, rfl, Nat.le_refl _, fun _ _ _ => rfl⟩ (fun r e => by cases e)

set_option maxHeartbeats 1000000 in
theorem subs_stops (n n₀ ab fb sb vb vc size : Nat) (a : Option Addr) (all : List Nat) (w : World) (hS : SubIn n₀ w ab fb all a vb vc) (hn : n₀ ≤ w.heap.size) (hsb : w.cell? ⟨sb, 0, none⟩ = some (I size)) (hsl : sb < n₀)
    (h16 : ∀ i ∈ all, i < 16) (h16' : all.length ≤ 16) (hsz : size ≤ 16) :
    SeqStopsK Fence.wide n Tryd.prog 80 #[.pointer (some ⟨fb, 0, none⟩), .pointer (some ⟨sb, 0, none⟩)] (fun x : {x : Nat // x < 2 ^ 16} => #[U (x.1 : Nat)]) (Below n₀) (fun ys => ys.map (·.1) = subs size all 0) (fun pre => pre.map (·.1) <+: subs size all 0) (subs size all 0).length w := fun l J Jx W hW hJ hJx hY h0 => by
  have hS2 := hS.later (hW.mono hn)
  have hF := from_any l n₀ (subs size all 0).length ab fb vb vc a all h16 (fun l W => ∃ l', l'.map (·.1) = l ∧ J l' W) (fun l W => ∃ l', l'.map (·.1) = l ∧ Jx l' W)
    (fun pre W h => by obtain ⟨l', h, hj⟩ := h; exact ⟨l', h, abides_drew hJ _ _ hj⟩)
    (fun m pre x W1 hx hj0 hlen => by
      obtain ⟨l', hl', hj⟩ := hj0
      obtain ⟨fn, tmps, assign, body, hy, hR⟩ := yieldAny rfl m (hY l' ⟨x, hx⟩ W1 hj (by rw [← hl', List.length_map] at hlen; exact hlen))
      refine ⟨fn, tmps, assign, body, hy, hR.mono ?_⟩
      rintro e W3 (⟨he, hJ3, hk3⟩ | ⟨he, hJx3⟩)
      · exact .inl ⟨he, ⟨_, by simp [hl'], hJ3⟩, hk3⟩
      · exact .inr ⟨he, ⟨_, by simp [hl'], hJx3⟩⟩)
    size 0 0 [] W hS2 ⟨[], rfl, h0⟩ (Nat.zero_le _) h16' hsz (by omega) (by simp)
  have cF : W.cell? ⟨fb, 0, none⟩ = some (.func (.func 79) #[] #[.pointer (some ⟨ab, 0, none⟩), .pointer (some ⟨fb, 0, none⟩)]) := hS2.fn
  have cS : W.cell? ⟨sb, 0, none⟩ = some (I size) := (hW.cell (p := ⟨sb, 0, none⟩) (by show sb < _; omega)).trans hsb
  rw [List.drop_zero] at hF
  have HF := Lib.hid hF
  clear hF hS2 hS hY hJ hJx h0 h16
  refine callsIn_wide.2 ?_
  show Calls _ _ #[.func (.yield l) #[] #[], .pointer (some ⟨fb, 0, none⟩), .pointer (some ⟨sb, 0, none⟩)] _ _
  go_enter Tryd.func80, Tryd.ntmps80
  go_wp2_with (go_at_call 79; refine HF.out.mono ?_; rintro e W2 (⟨rfl, hJ2, hb2⟩ | ⟨rfl, q2, hq2, hx2⟩))
  · go_end0
    obtain ⟨l', h1, h2⟩ := hJ2
    exact ⟨⟨_, rfl⟩, .inl ⟨l', by simpa using h1, h2⟩⟩
  · go_end0
    obtain ⟨l', h1, h2⟩ := hx2
    exact ⟨⟨_, rfl⟩, .inr ⟨l', by rw [h1]; simpa using hq2, h2⟩⟩
end Go.Proofs.YthaamnjpjkkolabDoor
namespace Go.Proofs.YthaamnjpjkkolabDoor
open Go.RowKit Go.Proofs Lin Go.Shelf
set_option maxRecDepth 100000
set_option linter.unusedVariables false
attribute [local go_sem] Oper.semAt_some

def marksOf (l : List Nat) : List Deferred := l.map fun d => { target := .collected d, args := #[] }
/-- What the marks of loops that are over leave: they are taken up, one by one. -/
theorem leaves_marks {F : Fence} {n : Nat} {P : Program} {fn : Func} {tmps : Array Value} {R : Ending → World → Prop} : ∀ (l : List Nat) (w : World), l.Pairwise (· ≠ ·) → (∀ d ∈ l, w.heap[d]? = some (.deferred (some []))) →
    (∀ w', w'.heap.size = w.heap.size → w'.os = w.os → w'.tape = w.tape → w'.output = w.output → (∀ b, b ∉ l → w'.heap[b]? = w.heap[b]?) → LeavesIn F n P fn tmps R [] .returning w') → LeavesInM F n P fn tmps R (marksOf l) .returning w
  | [], w, _, _, h => h w rfl rfl rfl rfl fun _ _ => rfl
  | d :: l, w, hp, hd, h => by
    rw [List.pairwise_cons] at hp
    refine ⟨by simp, .inl ⟨d, _, rfl, run_takeDeferred (hd d (List.mem_cons_self ..)), ?_⟩⟩
    refine leaves_marks l _ hp.2 (fun b hb => ?_) (fun w' h1 h2 h3 h4 h5 => h w' (by rw [h1, World.putObj_size]) (h2.trans rfl) (h3.trans rfl) (h4.trans rfl) fun b hb => ?_)
    · have hne : b ≠ d := fun e => hp.1 b hb e.symm
      exact (World.putObj_heap_other (by omega)).trans (hd b (List.mem_cons_of_mem _ hb))
    · have hne : b ≠ d := fun e => hb (e ▸ List.mem_cons_self ..)
      exact (h5 b fun h' => hb (List.mem_cons_of_mem _ h')).trans (World.putObj_heap_other (by omega))

theorem tab_later {g : Nat} {tab : List Nat} {w w' : World} (h : TabAt g tab w) (hb : Below w.heap.size w w') : TabAt g tab w' := fun j hj => (hb.cell (World.block_lt_of_cell? _ _ (h j hj))).trans (h j hj)

theorem keepsFrom_below {W W' : World} (h : Below W.heap.size W W') (B : Nat) : KeepsFrom B W W' := ⟨h.size, fun k o _ hk _ => (h.block k (Array.getElem?_eq_some_iff.1 hk).1).trans hk⟩

/-- How a round of the search is left: the set has been found, or no set of this size does. -/
def readsX (W3 : World) (r : Nat) (sp : Nat → Bool) (less : Prop) : Code → List {x : Nat // x < 2 ^ 16} → World → Prop
  | .ret, pre, W => (∃ p s, pre.map (·.1) = p ++ [s] ∧ (∀ t ∈ p, sp t = false) ∧ sp s = true ∧ Boxed W r 91 (U s)) ∧ Upd (fun b => b = r) W3 W
  | .exit id, _, W => (id = 1 ∧ less) ∧ Below W3.heap.size W3 W
  | _, _, _ => False
theorem ownFrom_upd {α : Type} (G : Nat → Prop) (w0 : World) {B : Nat} (h : w0.heap.size ≤ B) : OwnFrom B (fun (_ : α) W => Upd G w0 W) := fun s X Y row hs hg hr =>
  ⟨hg.os.trans hs.os, hg.tape.trans hs.tape, hg.output.trans hs.output, Nat.le_trans hs.size hg.size, fun b hb hG => (hg.block b (Nat.lt_of_lt_of_le hb hs.size) (fun e => by have := (hr b e.symm).1; omega)).trans (hs.block b hb hG)⟩
theorem readsX_own (W3 : World) (r : Nat) (sp : Nat → Bool) (less : Prop) : ∀ c, OwnFrom W3.heap.size (readsX W3 r sp less c) := by
  intro c
  cases c with
  | ret =>
    intro s X Y row hs hg hr
    obtain ⟨⟨p, t, h1, h2, h3, h4⟩, hu⟩ := hs
    exact ⟨⟨p, t, h1, h2, h3, (boxed_own' (α := Unit) r _ _) () X Y row h4 hg (fun e he => (hr e he).2)⟩, ownFrom_upd (α := Unit) _ W3 (Nat.le_refl _) () X Y row hu hg hr⟩
  | exit id =>
    intro s X Y row hs hg hr
    exact ⟨hs.1, ownFrom_below (Nat.le_refl _) (Nat.le_refl _) () X Y row hs.2 hg hr⟩
  | _ => intro s X Y row hs _ _; exact hs

set_option maxHeartbeats 2000000 in
theorem reads_any (w0 : World) (cb D L G x : Nat) (v : Value) (β : Nat → Nat) (w : World) (hC : CodeAt w0 w cb D L G v β) (hR : Right D L G) (hx : x < 2 ^ (D + L + G)) (hT : TabAt 1 Lib.deBruijn64tab w) :
    Calls Tryd.prog 56 #[.pointer (some ⟨cb, 0, none⟩), U x] w fun e w' => e = .returned (U (readsN D L (D + L + G) x)) ∧ Below w.heap.size w w' := by
  have h7 := hR.sum; have h1 := hR.d1; have h2 := hR.d2
  have hp64 : 2 ^ (D + L + G) ≤ 2 ^ 16 := Nat.pow_le_pow_right (by omega) h7
  have HC := Lib.hid hC
  have HR := Lib.hid hR
  have HX := Lib.hid hx
  have HT := Lib.hid hT
  have HB0 := Lib.hid (show Below w.heap.size w (((w.alloc (.cells #[.pointer (some ⟨cb, 0, none⟩)] 76)).alloc (.cells #[U x] 91)).alloc (.cells #[U 0] 91)) from (((Below.refl _ w).alloc (Nat.le_refl _) _).alloc (by simp) _).alloc (by simp; omega) _)
  clear hC hR hx hT hp64
  refine (callsIn_wide (n := 3)).1 (callsIn_of_wp_marks Tryd.func56 rfl trivial ?_ rfl)
  simp only [Tryd.ntmps56, List.size_toArray, List.length_cons, List.length_nil, Nat.reduceAdd, Nat.reduceSub, Array.replicate_succ, Array.replicate_zero, List.push_toArray, List.append_toArray, List.nil_append, List.cons_append]
  refine wpIn_wide.2 ?_
  go_wp2_with fail
  go_step3
  go_wp2_with fail
  refine (local_any w0 cb D L G x v β _ (HC.out.later HB0.out) HR.out HX.out (tab_later HT.out HB0.out)).mono ?_
  rintro e w1 ⟨⟨i, hs, hi, rfl⟩ | ⟨hno, rfl⟩, q, rfl⟩
  · have HE := Lib.hid (reads_one hs hi)
    clear hs hi
    go_wp2_with fail
    show LeavesInM _ _ _ _ _ _ [] _ _
    have b2 : Boxed ((((w.alloc (.cells #[.pointer (some ⟨cb, 0, none⟩)] 76)).alloc (.cells #[U x] 91)).alloc (.cells #[U 0] 91)).drewN q) (w.heap.size + 1 + 1) 91 (U 0) := by
      have h := Boxed.new ((w.alloc (.cells #[.pointer (some ⟨cb, 0, none⟩)] 76)).alloc (.cells #[U x] 91)) 91 (U 0)
      rw [World.size_alloc, World.size_alloc] at h
      exact h
    have c2 := (b2.set (U (locN D L (D + L + G) i))).cell
    refine ⟨U (locN D L (D + L + G) i), by simp [results, Tryd.results56, go_sem, c2], by rw [HE.out], ?_⟩
    exact (below_drewN HB0.out q).setCell (by simp; omega) _
  · have HE := Lib.hid (reads_search hno)
    clear hno
    have hx64 : x < 2 ^ 64 := Nat.lt_of_lt_of_le HX.out (Nat.pow_le_pow_right (by omega) (by omega))
    have HN := Lib.hid (u64_not x hx64)
    have hT2 : (2 ^ 64 - (x + 1)) % 2 ^ (D + L + G) = thereN (D + L + G) x := rfl
    have HTh := Lib.hid hT2
    have HL := Lib.hid (left_eq (N := D + L + G) h7 hx64)
    have HW := Lib.hid (fun w (h : CodeAt w0 w cb D L G v β) => whole_any w0 cb D L G (2 ^ 64 - (x + 1)) v β w h HR.out (by omega))
    rw [hT2] at HL HW
    clear hT2
    obtain ⟨th, hthe⟩ : ∃ th, th = thereN (D + L + G) x := ⟨_, rfl⟩
    rw [← hthe] at HL HW HTh
    have HTT := Lib.hid hthe
    have hth : th < 2 ^ 16 := hthe ▸ Nat.lt_of_lt_of_le (Nat.mod_lt _ (Nat.pow_pos (by omega))) (Nat.pow_le_pow_right (by omega) h7)
    clear hthe
    have hp : 2 ^ 64 - (x + 1) < 2 ^ 64 := by omega
    generalize 2 ^ 64 - (x + 1) = x' at *
    have HBq := Lib.hid (below_drewN HB0.out q)
    have bC := Lib.hid (show Boxed ((((w.alloc (.cells #[.pointer (some ⟨cb, 0, none⟩)] 76)).alloc (.cells #[U x] 91)).alloc (.cells #[U 0] 91)).drewN q) w.heap.size 76 (.pointer (some ⟨cb, 0, none⟩)) from ((Boxed.new w _ _).alloc _).alloc _)
    have bX := Lib.hid (show Boxed ((((w.alloc (.cells #[.pointer (some ⟨cb, 0, none⟩)] 76)).alloc (.cells #[U x] 91)).alloc (.cells #[U 0] 91)).drewN q) (w.heap.size + 1) 91 (U x) from by
      have h := (Boxed.new (w.alloc (.cells #[.pointer (some ⟨cb, 0, none⟩)] 76)) 91 (U x)).alloc (.cells #[U 0] 91)
      rw [World.size_alloc] at h
      exact h)
    have bR := Lib.hid (show Boxed ((((w.alloc (.cells #[.pointer (some ⟨cb, 0, none⟩)] 76)).alloc (.cells #[U x] 91)).alloc (.cells #[U 0] 91)).drewN q) (w.heap.size + 1 + 1) 91 (U 0) from by
      have h := Boxed.new ((w.alloc (.cells #[.pointer (some ⟨cb, 0, none⟩)] 76)).alloc (.cells #[U x] 91)) 91 (U 0)
      rw [World.size_alloc, World.size_alloc] at h
      exact h)
    go_wp2_with fail
    rw [HN.out]
    generalize (((w.alloc (.cells #[.pointer (some ⟨cb, 0, none⟩)] 76)).alloc (.cells #[U x] 91)).alloc (.cells #[U 0] 91)).drewN q = Wa at *
    refine (HW.out _ (HC.out.later HBq.out)).mono ?_
    rintro e w1 ⟨rfl, hb⟩
    have HB1 := Lib.hid (HBq.out.trans (hb.mono HBq.out.size))
    have bC1 := Lib.hid (bxBelow bC.out hb bC.out.lt)
    have bX1 := Lib.hid (bxBelow bX.out hb bX.out.lt)
    have bR1 := Lib.hid (bxBelow bR.out hb bR.out.lt)
    have c1 := bC1.out.cell
    have c2 := bX1.out.cell
    have hcb : cb < w.heap.size := HC.out.kd.lt
    have c3 : w1.cell? ⟨cb, 0, none⟩ = some (I D) := (HB1.out.cell (p := ⟨cb, 0, none⟩) hcb).trans (HC.out.par.cell 0 (by omega))
    have hl1 := bR1.out.lt
    clear hb bC bX bR HBq HB0 Wa hcb
    go_wp2_with fail
    go_step3
    go_wp2_with fail
    refine (wpIn_wide (n := 3)).1 ?_
    obtain ⟨fr, hfr⟩ : ∃ fr : Nat → List Nat → Value → Value → Value → Value → Value → Value → Value → Value → Value → Value → Value → Value → Value → Act, fr = fun k ds u8 u29 u30 u31 u32 u33 u34 u35 u36 u37 u38 u39 u50 =>
      { tmps := #[.pointer (some ⟨cb, 0, none⟩), U x, .pointer (some ⟨w.heap.size, 0, none⟩), .pointer (some ⟨w.heap.size + 1, 0, none⟩), .pointer (some ⟨w.heap.size + 1 + 1, 0, none⟩), U 0, .bool false, U th, u8, undef,
          .tuple #[U 0, .bool false], .pointer (some ⟨cb, 0, none⟩), U x, .tuple #[U 0, .bool false], U 0, .bool false, .bool false, undef, .pointer (some ⟨cb, 0, none⟩), U x, .int .u64 (x' : Int), U th,
          .pointer (some ⟨cb, 0, none⟩), .pointer (some ⟨cb, 0, none⟩), .pointer (some ⟨cb, 0, none⟩), .pointer (some ⟨cb, 0, none⟩), I D, .int .i64 ((D : Int) + 1), I k, u29, u30, u31, u32, u33, u34, u35, u36, u37, u38, u39,
          undef, undef, undef, undef, undef, undef, undef, undef, undef, undef, u50, undef], defers := marksOf ds } := ⟨_, rfl⟩
    refine wpIn_loop (fun a wr => ∃ (k : Nat) (ds : List Nat) (u8 u29 u30 u31 u32 u33 u34 u35 u36 u37 u38 u39 u50 : Value), a = fr k ds u8 u29 u30 u31 u32 u33 u34 u35 u36 u37 u38 u39 u50 ∧ k ≤ D + 1 ∧ ds.Pairwise (· ≠ ·) ∧ (∀ d ∈ ds, w1.heap.size ≤ d ∧ wr.heap[d]? = some (.deferred (some []))) ∧ Below w1.heap.size w1 wr ∧ searchN D L (D + L + G) x (D + 1 - k) k = searchN D L (D + L + G) x (D + 1) 0)
      (fun a _ => D + 1 - (intOf (a.tmps.getD 28 undef)).toNat) ?start ?round
    case start => exact ⟨0, [], undef, undef, undef, undef, undef, undef, undef, undef, undef, undef, undef, undef, undef, by rw [hfr]; rfl, by omega, List.Pairwise.nil, (fun d hd => by cases hd), Below.refl _ _, rfl⟩
    case round =>
      rintro _ wr ⟨k, ds, u8, u29, u30, u31, u32, u33, u34, u35, u36, u37, u38, u39, u50, rfl, hk, hpw, hds, hB, hse⟩
      have HSE := Lib.hid hse
      have HPW := Lib.hid hpw
      have HDS := Lib.hid hds
      have HBr := Lib.hid hB
      have bC2 := Lib.hid (bxBelow bC1.out hB bC1.out.lt)
      have bX2 := Lib.hid (bxBelow bX1.out hB bX1.out.lt)
      have bR2 := Lib.hid (bxBelow bR1.out hB bR1.out.lt)
      have hsr : w1.heap.size ≤ wr.heap.size := hB.size
      clear hse hpw hds hB c1 c2 c3
      rw [hfr]
      by_cases hlt : k < D + 1
      · have hk1 : decide ((k : Int) < (D : Int) + 1) = true := by simp; omega
        have c1 := bC2.out.cell
        have c2 := bX2.out.cell
        refine wpIn_wide.2 ?_
        go_wp2_with fail
        have bK := Lib.hid (Boxed.new wr 3 (I k))
        have HBk := Lib.hid (HBr.out.alloc hsr (.cells #[I k] 3))
        have bC3 := Lib.hid (bC2.out.alloc (.cells #[I k] 3))
        have bX3 := Lib.hid (bX2.out.alloc (.cells #[I k] 3))
        have bR3 := Lib.hid (bR2.out.alloc (.cells #[I k] 3))
        have HDS3 := Lib.hid (show ∀ d ∈ ds, w1.heap.size ≤ d ∧ (wr.alloc (.cells #[I k] 3)).heap[d]? = some (.deferred (some [])) from fun d hd => ⟨(HDS.out d hd).1, (Deep.blk_alloc_lt _ _ _ (Array.getElem?_eq_some_iff.1 (HDS.out d hd).2).1).trans (HDS.out d hd).2⟩)
        have hsk : (wr.alloc (.cells #[I k] 3)).heap.size = wr.heap.size + 1 := World.size_alloc ..
        generalize wr.alloc (.cells #[I k] 3) = W1 at *
        have e1 := bC3.out.cell
        have e2 := bK.out.cell
        have hBw := HB1.out.trans (HBk.out.mono HB1.out.size)
        have e30 : W1.cell? ⟨cb, 0, none⟩ = some (I D) := (hBw.cell (p := ⟨cb, 0, none⟩) HC.out.kd.lt).trans (HC.out.par.cell 0 (by omega))
        have e31 : W1.cell? ⟨cb, 1, none⟩ = some (I L) := (hBw.cell (p := ⟨cb, 1, none⟩) HC.out.kd.lt).trans (HC.out.par.cell 1 (by omega))
        have e32 : W1.cell? ⟨cb, 2, none⟩ = some (I G) := (hBw.cell (p := ⟨cb, 2, none⟩) HC.out.kd.lt).trans (HC.out.par.cell 2 (by omega))
        clear hBw
        obtain ⟨ι, hι, wA, hwA, HWA⟩ := later_worlds W1
        have z0 := fun n => ((hwA n).cell (p := ⟨w.heap.size, 0, none⟩) bC3.out.lt).trans e1
        have z1 := fun n => ((hwA n).cell (p := ⟨wr.heap.size, 0, none⟩) bK.out.lt).trans e2
        have hcb1 : cb < W1.heap.size := World.block_lt_of_cell? _ _ e30
        have z2 : ∀ n, (wA n).cell? ⟨cb, 0, none⟩ = some (I D) := fun n => ((hwA n).cell (p := ⟨cb, 0, none⟩) hcb1).trans e30
        have z3 : ∀ n, (wA n).cell? ⟨cb, 1, none⟩ = some (I L) := fun n => ((hwA n).cell (p := ⟨cb, 1, none⟩) hcb1).trans e31
        have z4 : ∀ n, (wA n).cell? ⟨cb, 2, none⟩ = some (I G) := fun n => ((hwA n).cell (p := ⟨cb, 2, none⟩) hcb1).trans e32
        clear hwA e1 e2 e30 e31 e32
        refine wp_noPanic (wp_region_held_seq [0, 1, 2, 3, 4, 6] [5] 7 (fun W => ∃ n, W = wA n) mixed (by kernel_rfl) rfl noPanic_put (HWA.out _ (Below.refl _ _).drew) ?_)
        simp only [pick, List.filterMap_cons, List.filterMap_nil, List.getElem?_cons_succ, List.getElem?_cons_zero, List.drop_succ_cons, List.drop_zero]
        change wpQuiet _ _ _ _ (_ :: _ :: _ :: _ :: _ :: _ :: []) _
        repeat (go_big_quiet_step (fail))
        refine wpQuiet_nil ?_
        clear z0 z1 z2 z3 z4
        simp only [chainM]
        refine wpOp_list (i := 5) rfl rfl ?_
        go_wp2_with (go_at_call 44; refine (shards_any D L G (by omega) _).mono ?_; rintro e W2 ⟨rfl, hb2⟩; have HBs := Lib.hid (show Below W1.heap.size W1 W2 from (below_drew W1).trans hb2); clear hb2)
        refine ⟨HWA.out _ HBs.out, ?_⟩
        have HSub := Lib.hid (fun w => subsets_any th (D + L + G) k (by omega) (by omega) w)
        rw [HL.out] at HSub
        have hN3 : (D : Int) + (L : Int) + (G : Int) = ((D + L + G : Nat) : Int) := by simp
        have HN3 := Lib.hid hN3
        clear hN3
        have HRk := Lib.hid (fun w' (h : CodeAt w0 w' cb D L G v β) => rankOf_any w0 cb D L G x v β w' h HR.out hx64)
        have HSp := Lib.hid (fun w' r (hr : r < 2 ^ 64) (h : CodeAt w0 w' cb D L G v β) => spans_any w0 cb D L G x r v β w' h HR.out hx64 hr)
        obtain ⟨rk, hrk⟩ : ∃ rk : Int, rk = rankL D (codeM D L) (sel (D + L + G) x.testBit) := ⟨_, rfl⟩
        rw [← hrk] at HRk
        have HLess : Hid ((k : Int) < rk → ∀ s ∈ subs k (left (D + L + G) x) 0, spB D L (D + L + G) x s = false) := Lib.hid (fun hless s hs => by
          rw [Bool.eq_false_iff]
          intro hsp
          have h3 := ((spB_iff h2 h7).1 hsp).len
          obtain ⟨kk, k1, k2, rfl⟩ := mem_subs.1 hs
          rw [Nat.zero_or, sel_mask k1, k2] at h3
          have h4 := rankL_eq (D := D) (M := codeM D L) (l := sel (D + L + G) x.testBit) (by omega) (Nat.le_trans (sel_len _ _) (by omega))
          rw [← hrk] at h4
          omega)
        clear hrk
        have HL16 := Lib.hid (show (∀ i ∈ left (D + L + G) x, i < 16) ∧ (left (D + L + G) x).length ≤ 16 from ⟨fun i hi => by have := (left_mem.1 hi).1; omega, Nat.le_trans (sel_len _ _) h7⟩)
        go_wp2_with (go_at_call 70; rw [HN3.out]; refine (HSub.out _).mono ?_; rintro e W3 ⟨ab, fb, sb, vb, vc, a, rfl, hS, hsb, hsl, hb3⟩; have HS := Lib.hid hS; have HSB := Lib.hid hsb; have HB3 := Lib.hid (HBs.out.trans (hb3.mono HBs.out.size)); clear hS hsb hb3)
        refine noPanic_normal ?_
        go_wp2_with fail
        refine (wpIn_wide (n := 3)).1 ?_
        have hs31 := HB3.out.size
        have bC4 := Lib.hid (bxBelow bC3.out HB3.out bC3.out.lt)
        have bX4 := Lib.hid (bxBelow bX3.out HB3.out bX3.out.lt)
        have bR4 := Lib.hid (bxBelow bR3.out HB3.out bR3.out.lt)
        have bK4 := Lib.hid (bxBelow bK.out HB3.out bK.out.lt)
        have HDS4 := Lib.hid (show ∀ d ∈ ds, w1.heap.size ≤ d ∧ W3.heap[d]? = some (.deferred (some [])) from fun d hd => ⟨(HDS3.out d hd).1, (HB3.out.block d (Array.getElem?_eq_some_iff.1 (HDS3.out d hd).2).1).trans (HDS3.out d hd).2⟩)
        have HB4 := Lib.hid (show Below w.heap.size w W3 from HB1.out.trans ((HBk.out.trans (HB3.out.mono (by omega))).mono HB1.out.size))
        have hB14 := HB1.out.size
        refine wpIn_rangeFunc_ownG rfl (by omega) (gf := 80) (lb := #[.pointer (some ⟨fb, 0, none⟩), .pointer (some ⟨sb, 0, none⟩)]) rfl trivial (enters_of Tryd.func80 (by kernel_rfl) rfl)
          (subs_stops (3 - 1) W3.heap.size ab fb sb vb vc k a (left (D + L + G) x) W3 HS.out (Nat.le_refl _) HSB.out hsl HL16.out.1 HL16.out.2 (by omega))
          belowK_t (belowK_b (Nat.le_refl _)) (Below.refl _ _) (fun _ => rfl)
          (fun (pre : List {x : Nat // x < 2 ^ 16}) W => (∀ s ∈ pre.map (·.1), spB D L (D + L + G) x s = false) ∧ Below W3.heap.size W3 W)
          (readsX W3 (w.heap.size + 1 + 1) (spB D L (D + L + G) x) ((k : Int) < rk))
          (OwnFrom.and (ownFrom_pure _ _) (ownFrom_below (Nat.le_refl _) (Nat.le_refl _)))
          (readsX_own _ _ _ _)
          ⟨fun s hs => by simp at hs, Below.refl _ _⟩
          (fun i => { tmps := #[.pointer (some ⟨cb, 0, none⟩), U x, .pointer (some ⟨w.heap.size, 0, none⟩), .pointer (some ⟨w.heap.size + 1, 0, none⟩), .pointer (some ⟨w.heap.size + 1 + 1, 0, none⟩), U 0, .bool false, U th, .pointer (some ⟨wr.heap.size, 0, none⟩), U (i.1 : Nat),
            .tuple #[U 0, .bool false], .pointer (some ⟨cb, 0, none⟩), U x, .tuple #[U 0, .bool false], U 0, .bool false, .bool false, undef, .pointer (some ⟨cb, 0, none⟩), U x, .int .u64 (x' : Int), U th,
            .pointer (some ⟨cb, 0, none⟩), .pointer (some ⟨cb, 0, none⟩), .pointer (some ⟨cb, 0, none⟩), .pointer (some ⟨cb, 0, none⟩), I D, .int .i64 ((D : Int) + 1), I k, .bool true, I k, U th, .pointer (some ⟨cb, 0, none⟩), .pointer (some ⟨cb, 0, none⟩), .pointer (some ⟨cb, 0, none⟩), .agg #[I D, I L, I G], I ((D : Int) + (L : Int) + (G : Int)), I k,
            .func (.func 80) #[] #[.pointer (some ⟨fb, 0, none⟩), .pointer (some ⟨sb, 0, none⟩)], U (i.1 : Nat),
            undef, undef, undef, undef, undef, undef, undef, undef, undef, undef, u50, undef], defers := [] }) ?assign ?body ?done ?stop
        case assign =>
          intro l i W K hK
          gi_wp2
          exact hK
        case body =>
          rintro l pre i W ⟨hno, hBW⟩ hlen
          have hi := i.2
          generalize hiv : i.1 = iv at *
          have HNo := Lib.hid hno
          have HBW := Lib.hid hBW
          have bC5 := Lib.hid (bxBelow bC4.out hBW bC4.out.lt)
          have bX5 := Lib.hid (bxBelow bX4.out hBW bX4.out.lt)
          have bR5 := Lib.hid (bxBelow bR4.out hBW bR4.out.lt)
          have bK5 := Lib.hid (bxBelow bK4.out hBW bK4.out.lt)
          have hsW := hBW.size
          clear hno hBW
          have HCW := Lib.hid (HC.out.later (HB4.out.trans (HBW.out.mono HB4.out.size)))
          have e0 := bK5.out.cell
          have e1 := bC5.out.cell
          have e2 := bX5.out.cell
          gi_wp2_with fail
          obtain ⟨ι2, hι2, wB, hwB, HWB⟩ := later_worlds W
          have z0 := fun n => ((hwB n).cell (p := ⟨wr.heap.size, 0, none⟩) bK5.out.lt).trans e0
          have z1 := fun n => ((hwB n).cell (p := ⟨w.heap.size, 0, none⟩) bC5.out.lt).trans e1
          have z2 := fun n => ((hwB n).cell (p := ⟨w.heap.size + 1, 0, none⟩) bX5.out.lt).trans e2
          clear hwB
          refine round_region_held_quiet 3 (fun V => ∃ n, V = wB n) mixed (by kernel_rfl) (fun ⟨_, _, h⟩ => h) (by kernel_rfl) rfl (fun c a d v w h => by cases d <;> exact h) (HWB.out _ (Below.refl _ _).drew) ?_
          simp only [List.take_succ_cons, List.take_zero, List.drop_succ_cons, List.drop_zero]
          change wpQuiet _ _ _ _ (_ :: _ :: _ :: []) _
          repeat (go_big_quiet_step (fail))
          refine wpQuiet_nil ?_
          clear z0 z1 z2
          refine wpOp_list (i := 3) rfl rfl ?_
          go_wp2_with (go_at_call 71; refine (HRk.out _ (HCW.out.later (below_drew W))).mono ?_; rintro e W5 ⟨rfl, hb5⟩; have HB5 := Lib.hid (show Below W.heap.size W W5 from (below_drew W).trans hb5); clear hb5)
          refine ⟨HWB.out _ HB5.out, ?_⟩
          by_cases hless : (k : Int) < rk
          · have hl2 : decide ((k : Int) < rk) = true := by simpa using hless
            go_wp2_with fail
            gi_wp2_with fail
            exact ⟨keepsFrom_below HB5.out _, ⟨rfl, hless⟩, HBW.out.trans (HB5.out.mono hsW)⟩
          · have hl2 : decide ((k : Int) < rk) = false := by simpa using hless
            have bC6 := Lib.hid (bxBelow bC5.out HB5.out bC5.out.lt)
            have bX6 := Lib.hid (bxBelow bX5.out HB5.out bX5.out.lt)
            have bR6 := Lib.hid (bxBelow bR5.out HB5.out bR5.out.lt)
            have e3 := bC6.out.cell
            have e4 := bX6.out.cell
            obtain ⟨sp, hsp⟩ : ∃ sp, sp = spB D L (D + L + G) x iv := ⟨_, rfl⟩
            have HS1 := Lib.hid (HSp.out W5 iv (by omega) (HCW.out.later HB5.out))
            rw [← hsp] at HS1
            have HSP := Lib.hid hsp
            clear hsp
            cases sp with
            | false =>
              go_wp2_with fail
              gi_wp2_with (refine ⟨trivial, ?_⟩; gi_at_call 72; refine (CallsIn.inRound l (callsIn_wide.2 HS1.out)).mono ?_; rintro e W6 ⟨rfl, hb6⟩; have HB6 := Lib.hid (HB5.out.trans (hb6.mono HB5.out.size)); clear hb6)
              have hbK : Below W3.heap.size W W6 := HB6.out.mono hsW
              refine ⟨keepsFrom_below HB6.out _, hbK, fun s hs => ?_, HBW.out.trans hbK⟩
              rw [List.map_append, List.mem_append] at hs
              rcases hs with hs | hs
              · exact HNo.out s hs
              · rw [List.map_cons, List.map_nil, hiv, List.mem_singleton] at hs
                rw [hs]; exact HSP.out.symm
            | true =>
              go_wp2_with fail
              gi_wp2_with (refine ⟨trivial, ?_⟩; gi_at_call 72; refine (CallsIn.inRound l (callsIn_wide.2 HS1.out)).mono ?_; rintro e W6 ⟨rfl, hb6⟩; have HB6 := Lib.hid (HB5.out.trans (hb6.mono HB5.out.size)); have bR7 := Lib.hid (bxBelow bR6.out hb6 bR6.out.lt); have e5 := bR7.out.cell; have e6 := bR7.out.frozen; clear hb6)
              have hu1 : Upd (fun b => b = w.heap.size + 1 + 1) W (W6.setCell ⟨w.heap.size + 1 + 1, 0, none⟩ (U iv)) := ((Upd.of_below HB6.out).mono (H := fun b => b = w.heap.size + 1 + 1) (fun b _ e => e.elim)).setCell (a := ⟨w.heap.size + 1 + 1, 0, none⟩) (fun _ => rfl) _
              have hu2 : Upd (fun b => b = w.heap.size + 1 + 1) W3 (W6.setCell ⟨w.heap.size + 1 + 1, 0, none⟩ (U iv)) := ((Upd.of_below (HBW.out.trans (HB6.out.mono hsW))).mono (H := fun b => b = w.heap.size + 1 + 1) (fun b _ e => e.elim)).setCell (a := ⟨w.heap.size + 1 + 1, 0, none⟩) (fun _ => rfl) _
              exact ⟨keepsFrom_upd hu1 (fun b e => by subst e; exact Boxed.cells bR5.out) _, ⟨pre.map (·.1), iv, by rw [List.map_append, List.map_cons, List.map_nil, hiv], HNo.out, HSP.out.symm, bR7.out.set _⟩, hu2⟩
        case done =>
          rintro Dd ys W hD hys ⟨hno, hBW⟩ hK
          have hys' : ys.map (·.1) = subs k (left (D + L + G) x) 0 := hys
          rw [hys'] at hno
          have hmiss : searchN D L (D + L + G) x (D + 1 - (k + 1)) (k + 1) = searchN D L (D + L + G) x (D + 1) 0 := by
            rw [← HSE.out, show D + 1 - k = D + 1 - (k + 1) + 1 by omega]
            exact (search_miss (List.find?_eq_none.2 fun s hs => by rw [hno s hs]; simp)).symm
          have HM := Lib.hid hmiss
          have HBW := Lib.hid hBW
          have HK := Lib.hid hK
          clear hmiss hno hys hys' hBW hK
          gi_wp2
          go_wp2_with fail
          refine ⟨⟨k + 1, Dd :: ds, .pointer (some ⟨wr.heap.size, 0, none⟩), .bool true, I k, U th, .pointer (some ⟨cb, 0, none⟩), .pointer (some ⟨cb, 0, none⟩), .pointer (some ⟨cb, 0, none⟩), .agg #[I D, I L, I G], I ((D : Int) + (L : Int) + (G : Int)), I k, .func (.func 80) #[] #[.pointer (some ⟨fb, 0, none⟩), .pointer (some ⟨sb, 0, none⟩)], u39, .int .i64 ((k : Int) + 1), rfl, by omega,
            List.pairwise_cons.2 ⟨fun d hd e => absurd hD (Nat.not_le.2 (by rw [e]; exact (Array.getElem?_eq_some_iff.1 (HDS4.out d hd).2).1)), HPW.out⟩, fun d hd => ?_, HBk.out.trans ((HB3.out.mono (by omega)).trans (HBW.out.mono (by omega))), HM.out⟩, by simp [intOf]; omega⟩
          rcases List.mem_cons.1 hd with rfl | hd
          · exact ⟨by omega, HK.out⟩
          · exact ⟨(HDS4.out d hd).1, (HBW.out.block d (Array.getElem?_eq_some_iff.1 (HDS4.out d hd).2).1).trans (HDS4.out d hd).2⟩
        case stop =>
          rintro Dd c pre W hD hpre hX hK
          have hpre' : pre.map (·.1) <+: subs k (left (D + L + G) x) 0 := hpre
          have HK := Lib.hid hK
          clear hpre hK
          cases c with
          | ret =>
            obtain ⟨⟨p, t, h1, h2, h3, h4⟩, hu⟩ := hX
            have HH := Lib.hid (show readsN D L (D + L + G) x = t by
              rw [HE.out, ← HSE.out, show D + 1 - k = D - k + 1 by omega]
              refine search_hit ?_
              rw [h1] at hpre'
              obtain ⟨q, hq⟩ := hpre'
              rw [← hq]
              refine List.find?_eq_some_iff_append.2 ⟨h3, p, q, by simp, fun b hb => by rw [h2 b hb]; rfl⟩)
            have HT4 := Lib.hid h4
            have HU := Lib.hid hu
            clear h1 h2 h3 h4 hu hpre'
            gi_wp2
            show LeavesInM _ _ _ _ _ _ (marksOf (Dd :: ds)) _ _
            refine leaves_marks (Dd :: ds) _ (List.pairwise_cons.2 ⟨fun d hd e => absurd hD (Nat.not_le.2 (by rw [e]; exact (Array.getElem?_eq_some_iff.1 (HDS4.out d hd).2).1)), HPW.out⟩) (fun d hd => ?_) (fun w' e1 e2 e3 e4 e5 => ?_)
            · rcases List.mem_cons.1 hd with rfl | hd
              · exact HK.out
              · exact (HU.out.block d (Array.getElem?_eq_some_iff.1 (HDS4.out d hd).2).1 (fun e : d = w.heap.size + 1 + 1 => absurd (HDS4.out d hd).1 (by rw [e]; exact Nat.not_le.2 hl1))).trans (HDS4.out d hd).2
            · have hrn : w.heap.size + 1 + 1 ∉ Dd :: ds := fun h => by
                rcases List.mem_cons.1 h with h | h
                · have := bR4.out.lt; omega
                · exact absurd (HDS4.out _ h).1 (Nat.not_le.2 hl1)
              have c2 : w'.cell? ⟨w.heap.size + 1 + 1, 0, none⟩ = some (U t) := (World.cell?_of_block (a := ⟨w.heap.size + 1 + 1, 0, none⟩) (e5 _ hrn)).trans HT4.out.cell
              have hb2 : Below w.heap.size w W := Below.upd HB4.out HU.out (fun b e => by have e' : b = w.heap.size + 1 + 1 := e; omega) HB4.out.size
              refine ⟨U t, by simp [results, Tryd.results56, go_sem, c2], by rw [HH.out], e2.trans hb2.os, e3.trans hb2.tape, e4.trans hb2.output, by rw [e1]; exact hb2.size, fun b hb => (e5 b fun h => ?_).trans (hb2.block b hb)⟩
              rcases List.mem_cons.1 h with h | h
              · have := HB4.out.size; omega
              · have h3 := (HDS4.out _ h).1; omega
          | exit id =>
            obtain ⟨⟨rfl, hless⟩, hBW⟩ := hX
            have HBW := Lib.hid hBW
            have hmiss : searchN D L (D + L + G) x (D + 1 - (k + 1)) (k + 1) = searchN D L (D + L + G) x (D + 1) 0 := by
              rw [← HSE.out, show D + 1 - k = D + 1 - (k + 1) + 1 by omega]
              exact (search_miss (List.find?_eq_none.2 fun s hs => by rw [HLess.out hless s hs]; simp)).symm
            have HM := Lib.hid hmiss
            clear hmiss hBW hpre' hless
            gi_wp2
            go_wp2_with fail
            refine ⟨⟨k + 1, Dd :: ds, .pointer (some ⟨wr.heap.size, 0, none⟩), .bool true, I k, U th, .pointer (some ⟨cb, 0, none⟩), .pointer (some ⟨cb, 0, none⟩), .pointer (some ⟨cb, 0, none⟩), .agg #[I D, I L, I G], I ((D : Int) + (L : Int) + (G : Int)), I k, .func (.func 80) #[] #[.pointer (some ⟨fb, 0, none⟩), .pointer (some ⟨sb, 0, none⟩)], u39, .int .i64 ((k : Int) + 1), rfl, by omega,
            List.pairwise_cons.2 ⟨fun d hd e => absurd hD (Nat.not_le.2 (by rw [e]; exact (Array.getElem?_eq_some_iff.1 (HDS4.out d hd).2).1)), HPW.out⟩, fun d hd => ?_, HBk.out.trans ((HB3.out.mono (by omega)).trans (HBW.out.mono (by omega))), HM.out⟩, by simp [intOf]; omega⟩
            rcases List.mem_cons.1 hd with rfl | hd
            · exact ⟨by omega, HK.out⟩
            · exact ⟨(HDS4.out d hd).1, (HBW.out.block d (Array.getElem?_eq_some_iff.1 (HDS4.out d hd).2).1).trans (HDS4.out d hd).2⟩
          | _ => exact hX.elim
      · have hk1 : decide ((k : Int) < (D : Int) + 1) = false := by simp; omega
        have cR := bR2.out.cell
        have fR := bR2.out.frozen
        refine wpIn_wide.2 ?_
        go_wp2_with fail
        show LeavesInM _ _ _ _ _ _ (marksOf ds) _ _
        have hu : Upd (fun b => b = w.heap.size + 1 + 1) wr (wr.setCell ⟨w.heap.size + 1 + 1, 0, none⟩ (U th)) := (Upd.refl (fun b => b = w.heap.size + 1 + 1) wr).setCell (a := ⟨w.heap.size + 1 + 1, 0, none⟩) (fun _ => rfl) _
        have hl3 := bR2.out.lt
        refine leaves_marks ds _ HPW.out (fun d hd => (hu.block d (Array.getElem?_eq_some_iff.1 (HDS.out d hd).2).1 (fun e : d = w.heap.size + 1 + 1 => absurd (HDS.out d hd).1 (by rw [e]; exact Nat.not_le.2 hl1))).trans (HDS.out d hd).2) (fun w' e1 e2 e3 e4 e5 => ?_)
        have c2 : w'.cell? ⟨w.heap.size + 1 + 1, 0, none⟩ = some (U th) := (World.cell?_of_block (a := ⟨w.heap.size + 1 + 1, 0, none⟩) (e5 (w.heap.size + 1 + 1) fun h => absurd (HDS.out _ h).1 (Nat.not_le.2 hl1))).trans (bR2.out.set (U th)).cell
        have hb2 : Below w.heap.size w (wr.setCell ⟨w.heap.size + 1 + 1, 0, none⟩ (U th)) := (HB1.out.trans (HBr.out.mono HB1.out.size)).setCell (by show w.heap.size ≤ w.heap.size + 1 + 1; omega) _
        refine ⟨U th, by simp [results, Tryd.results56, go_sem, c2], ?_, e2.trans hb2.os, e3.trans hb2.tape, e4.trans hb2.output, by rw [e1]; exact hb2.size, fun b hb => (e5 b fun h => ?_).trans (hb2.block b hb)⟩
        · rw [HE.out, ← HSE.out, show D + 1 - k = 0 by omega, HTT.out]; rfl
        · have h3 := (HDS.out _ h).1
          have h4 := HB1.out.size
          omega
end Go.Proofs.YthaamnjpjkkolabDoor
