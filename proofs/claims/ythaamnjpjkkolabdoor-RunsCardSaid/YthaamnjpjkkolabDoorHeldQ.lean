import Derived.Test.YthaamnjpjkkolabDoorHeld
import Derived.Deep.Quiet
import Derived.Below
import Derived.Lib.Hide
import Derived.WalkKit
/- A region that draws: reads, one operation that makes memory and of which the reads need not know, then a sequence that waits for all: the reads by the quiet walk. -/
namespace Go.Proofs.YthaamnjpjkkolabDoor
open Go Go.RowKit Go.Proofs

/-- Operations that only read. -/
def readB (o : Oper) : Bool :=
  match o.op with
  | .move _ | .assign _ | .load _ _ | .fieldAddr _ _ _ | .indexAddr _ _ _ | .build _ _ | .convert _ _ _ | .binOp _ _ _ _ _ | .unOp _ _ _ | .pick _ _ _ | .extract _ _ => true
  | .call c => (match c.callee with | .builtin .len => true | _ => false)
  | _ => false

def Plain (r : Result Next) : Prop := (∃ v w', r = .ok (.value v) w') ∨ ∃ h w', r = .halt h w'
theorem plain_value {P : Program} (s : Sem Value) (w : World) : Plain ((do pure (.value (← s)) : Sem Next).run P w) := by
  simp only [Sem.run_bind, Sem.run_pure]
  cases s.run P w with
  | ok v w' => exact .inl ⟨v, w', rfl⟩
  | halt h w' => exact .inr ⟨h, w', rfl⟩
theorem plain_pure {P : Program} (v : Value) (w : World) : Plain ((pure (.value v) : Sem Next).run P w) := .inl ⟨v, w, rfl⟩

theorem plain_op {P : Program} {o : Oper} (hd : readB o = true) (ρ : Operand → Value) (w : World) : Plain ((execOp ρ o).run P w) := by
  unfold execOp
  cases ho : o.op with
  | move x => exact plain_pure _ w
  | assign x => exact plain_pure _ w
  | load t a => exact plain_value _ w
  | fieldAddr s x f => exact plain_value _ w
  | indexAddr t x i => exact plain_value _ w
  | build t parts => exact plain_value _ w
  | convert s d x => exact plain_value _ w
  | binOp b t x y u => exact plain_value _ w
  | unOp u t x => exact plain_value _ w
  | pick c x y =>
    dsimp only
    simp only [Sem.run_bind, Sem.run_pure]
    cases (asBool (ρ c)).run P w with
    | ok v w' => exact .inl ⟨_, w', rfl⟩
    | halt h w' => exact .inr ⟨h, w', rfl⟩
  | extract x i => dsimp only; exact plain_value _ w
  | call c =>
    cases hc : c.callee with
    | builtin b =>
      cases b with
      | len =>
        simp only [Sem.run_bind, resolve, hc, Sem.run_pure, Result.andThen, invoke, builtin]
        generalize (Builtin.len_ _ _ _).run P w = r
        cases r with
        | ok v w' => exact .inl ⟨v, w', rfl⟩
        | halt h w' => exact .inr ⟨h, w', rfl⟩
      | _ => simp [readB, ho, hc] at hd
    | _ => simp [readB, ho, hc] at hd
  | _ => simp [readB, ho] at hd

section
variable {P : Program} {ops : Array Oper} {S : World → Prop}
theorem reads_of_quiet {K : Act → Prop} : ∀ (l : List Oper) (a : Act), l.all readB = true → wpQuiet P ops S K l a → wpReads P ops S K l a
  | [], _, _, h => h
  | o :: l, a, hd, h => by
    simp only [List.all_cons, Bool.and_eq_true] at hd
    unfold wpQuiet at h
    by_cases hw : Region.wanted o (yielded ops a.tmps) = true
    · rw [if_pos hw] at h
      obtain ⟨v, h1, h2⟩ := h
      refine ⟨v, .inl ⟨hw, fun w hS => ?_⟩, reads_of_quiet l _ hd.2 h2⟩
      have h3 := h1 w hS
      unfold Oper.quietAt at h3
      rcases plain_op (P := P) hd.1 a.eval w with ⟨u, w', e⟩ | ⟨x, w', e⟩
      · rw [e] at h3 ⊢
        obtain ⟨rfl, rfl⟩ := h3
        rfl
      · rw [e] at h3
        exact h3.elim
    · rw [if_neg hw] at h
      exact ⟨undef, .inr ⟨by simpa using hw, rfl⟩, reads_of_quiet l _ hd.2 h⟩

theorem wp_region_held_quiet {id : Nat} {Q : Exit → Act → World → Prop} {l : List Oper} {a : Act} {w : World} (m : Nat) (S : World → Prop) (hm : P.follows .mixedOrders = true) (hB : heldTailB .any l.toArray m = true) (hr : (l.take m).all readB = true)
    (hQ : ∀ c a d v w, Q (.panic c) (Act.put a d v) w → Q (.panic c) a w) (hS : S w.drew)
    (h : wpQuiet P l.toArray S (fun a' => wpOp P l.toArray Q m (fun a2 w2 => S w2 ∧ wpList P l.toArray Q (l.drop (m + 1)) a2 w2) a' w.drew) (l.take m) a) :
    (Code.region id l.toArray true).wp P Q a w :=
  wp_region_any hm (wpAny_held_tail m hB hS hQ (reads_of_quiet _ _ hr h))
end

/-! ### The same, the reads in an order that is named, the one that makes memory wherever it stands -/

def pick (l : List Oper) (idx : List Nat) : List Oper := idx.filterMap fun i => l[i]?

def readsO (md : Region.Mode) (ops : Array Oper) (g m h : Nat) : List Nat → Array Bool → Bool
  | [], listed => decide (Region.ready md ops listed = [m]) && decide (m < h) && Region.seqB md ops g h (listed.setIfInBounds m true)
  | i :: is, listed => (Region.ready md ops listed).contains i && Region.free md ops listed i && decide (i < h) && readsO md ops g m h is (listed.setIfInBounds i true)
def heldOB (md : Region.Mode) (ops : Array Oper) (idx : List Nat) (m h : Nat) : Bool :=
  Region.noSelect ops && decide (h < ops.size) && decide (idx.length + 1 = h) && Region.sinkB md ops h && Region.chainB md ops h && idx.all (fun i => (ops[i]?).isSome) && readsO md ops (ops.size - h) m h idx (Array.replicate ops.size false)

section
variable {P : Program} {ops : Array Oper} {Q : Exit → Act → World → Prop} {md : Region.Mode} {S : World → Prop}
theorem wpAnyHL_readsO {g m h : Nat} {K : Act → World → Prop} {w : World} (hS : S w) (hsel : Region.noSelect ops = true) (hs : Region.sinkB md ops h = true) (hc : Region.chainB md ops h = true) (hn : h < ops.size)
    (hQ : ∀ c a d v w, Q (.panic c) (Act.put a d v) w → Q (.panic c) a w) :
    ∀ (is : List Nat) (listed : Array Bool) (a : Act), is.all (fun i => (ops[i]?).isSome) = true → HeadInv md ops h listed →
    readsO md ops g m h is listed = true → wpReads P ops S (fun a' => wpOp P ops Q m (fun a2 w2 => S w2 ∧ K a2 w2) a' w) (is.filterMap fun i => ops[i]?) a →
    wpAnyHL P md ops Q S h (fun listed' a' w' => Region.seqB md ops g h listed' = true ∧ K a' w') (is.length + 1) listed a w
  | [], listed, a, _, inv, hB, hh => by
    simp only [readsO, Bool.and_eq_true, decide_eq_true_eq] at hB
    have h' : wpOp P ops Q m (fun a2 w2 => S w2 ∧ K a2 w2) a w := hh
    refine ⟨by rw [hB.1.1]; simp, fun i hi => ?_⟩
    rw [hB.1.1] at hi
    have hik : i = m := by simpa using hi
    rw [hik]
    exact ⟨hB.1.2, wpOp_mono (fun a' w' h2 => ⟨h2.1, hB.2, h2.2⟩) h'⟩
  | i :: is, listed, a, hsome, inv, hB, hh => by
    simp only [List.all_cons, Bool.and_eq_true] at hsome
    obtain ⟨o, ho⟩ := Option.isSome_iff_exists.1 hsome.1
    simp only [readsO, Bool.and_eq_true, decide_eq_true_eq] at hB
    obtain ⟨⟨⟨hr, hf⟩, hih⟩, hB'⟩ := hB
    have hr' : i ∈ Region.ready md ops listed := by simpa using hr
    rw [List.filterMap_cons, ho] at hh
    obtain ⟨v, hy, hK⟩ := hh
    exact wpAnyHL_first ho (Region.noSelect_spec hsel) hs hc hn hih (fun c a w => hQ c a _ _ w) (fun listed' a' w' hL => seqB_ready hL.1) (is.length + 1) listed a w inv (Region.free_spec ho hf) hr' hy hS
      (wpAnyHL_readsO hS hsel hs hc hn hQ is _ _ hsome.2 (inv.set hr' hih) hB' hK)

theorem wp_region_held_order {id : Nat} {l : List Oper} {a : Act} {w : World} (idx : List Nat) (m h : Nat) (S : World → Prop) (hm : P.follows .mixedOrders = true) (hB : heldOB .any l.toArray idx m h = true) (hr : (pick l idx).all readB = true)
    (hQ : ∀ c a d v w, Q (.panic c) (Act.put a d v) w → Q (.panic c) a w) (hS : S w.drew)
    (hh : wpQuiet P l.toArray S (fun a' => wpOp P l.toArray Q m (fun a2 w2 => S w2 ∧ wpList P l.toArray Q (l.drop h) a2 w2) a' w.drew) (pick l idx) a) :
    (Code.region id l.toArray true).wp P Q a w := by
  refine wp_region_any hm ?_
  simp only [heldOB, Bool.and_eq_true, decide_eq_true_eq] at hB
  obtain ⟨⟨⟨⟨⟨⟨hsel, hn⟩, hlen⟩, hs⟩, hc⟩, hsome⟩, hlex⟩ := hB
  have hdl : (l.drop h).length = l.toArray.size - h := by simp
  have inv0 : HeadInv .any l.toArray h (Array.replicate l.toArray.size false) :=
    ⟨by simp, fun j oj _ hl => (by rw [getD_replicate_false] at hl; cases hl), fun t _ ht => getD_in (by simpa using ht) (getD_replicate_false _ _)⟩
  have hp : (idx.filterMap fun i => l.toArray[i]?) = pick l idx := by simp [pick]
  have H := wpAnyHL_readsO (g := l.toArray.size - h) (K := fun a2 w2 => wpList P l.toArray Q (l.drop h) a2 w2) hS hsel hs hc hn hQ idx _ a hsome inv0 hlex (by rw [hp]; exact reads_of_quiet _ _ hr hh)
  have := wpAny_of_headH (g := l.toArray.size - h) (fun listed a' w' hL => by
    have := wpAny_of_seq (md := .any) (Q' := Q) (l.drop h) h listed a' w' (fun j => by simp [List.getElem?_drop]) (by rw [hdl]; exact hL.1) hL.2
    rwa [hdl] at this) _ _ _ _ H
  rw [hlen, show h + (l.toArray.size - h) = l.toArray.size by omega] at this
  exact this
end

/-! ### Reads in an order that is named, then operations that are forced, each of which leaves what the reads need; then the tail -/

def seqM (md : Region.Mode) (ops : Array Oper) (g h : Nat) : List Nat → Array Bool → Bool
  | [], listed => Region.seqB md ops g h listed
  | m :: ms, listed => decide (Region.ready md ops listed = [m]) && decide (m < h) && seqM md ops g h ms (listed.setIfInBounds m true)
def readsM (md : Region.Mode) (ops : Array Oper) (g h : Nat) (ms : List Nat) : List Nat → Array Bool → Bool
  | [], listed => seqM md ops g h ms listed
  | i :: is, listed => (Region.ready md ops listed).contains i && Region.free md ops listed i && decide (i < h) && readsM md ops g h ms is (listed.setIfInBounds i true)
def heldMB (md : Region.Mode) (ops : Array Oper) (idx ms : List Nat) (h : Nat) : Bool :=
  Region.noSelect ops && decide (h < ops.size) && decide (idx.length + ms.length = h) && Region.sinkB md ops h && Region.chainB md ops h && idx.all (fun i => (ops[i]?).isSome) && readsM md ops (ops.size - h) h ms idx (Array.replicate ops.size false)

section
variable {P : Program} {ops : Array Oper} {Q : Exit → Act → World → Prop} {md : Region.Mode} {S : World → Prop}
def chainM (P : Program) (ops : Array Oper) (Q : Exit → Act → World → Prop) (S : World → Prop) (K : Act → World → Prop) : List Nat → Act → World → Prop
  | [], a, w => K a w
  | m :: ms, a, w => wpOp P ops Q m (fun a2 w2 => S w2 ∧ chainM P ops Q S K ms a2 w2) a w

theorem wpAnyHL_seqM {g h : Nat} {K : Act → World → Prop} : ∀ (ms : List Nat) (listed : Array Bool) (a : Act) (w : World), seqM md ops g h ms listed = true → chainM P ops Q S K ms a w →
    wpAnyHL P md ops Q S h (fun listed' a' w' => Region.seqB md ops g h listed' = true ∧ K a' w') ms.length listed a w
  | [], listed, a, w, hB, hK => ⟨hB, hK⟩
  | m :: ms, listed, a, w, hB, hK => by
    simp only [seqM, Bool.and_eq_true, decide_eq_true_eq] at hB
    refine ⟨by rw [hB.1.1]; simp, fun i hi => ?_⟩
    rw [hB.1.1] at hi
    have him : i = m := by simpa using hi
    rw [him]
    exact ⟨hB.1.2, wpOp_mono (fun a' w' h2 => ⟨h2.1, wpAnyHL_seqM ms _ a' w' hB.2 h2.2⟩) hK⟩

theorem wpAnyHL_readsM {g h : Nat} {ms : List Nat} {K : Act → World → Prop} {w : World} (hS : S w) (hsel : Region.noSelect ops = true) (hs : Region.sinkB md ops h = true) (hc : Region.chainB md ops h = true) (hn : h < ops.size)
    (hQ : ∀ c a d v w, Q (.panic c) (Act.put a d v) w → Q (.panic c) a w) :
    ∀ (is : List Nat) (listed : Array Bool) (a : Act), is.all (fun i => (ops[i]?).isSome) = true → HeadInv md ops h listed →
    readsM md ops g h ms is listed = true → wpReads P ops S (fun a' => chainM P ops Q S K ms a' w) (is.filterMap fun i => ops[i]?) a →
    wpAnyHL P md ops Q S h (fun listed' a' w' => Region.seqB md ops g h listed' = true ∧ K a' w') (is.length + ms.length) listed a w
  | [], listed, a, _, inv, hB, hh => by
    have h' : chainM P ops Q S K ms a w := hh
    rw [List.length_nil, Nat.zero_add]
    exact wpAnyHL_seqM ms listed a w hB h'
  | i :: is, listed, a, hsome, inv, hB, hh => by
    simp only [List.all_cons, Bool.and_eq_true] at hsome
    obtain ⟨o, ho⟩ := Option.isSome_iff_exists.1 hsome.1
    simp only [readsM, Bool.and_eq_true, decide_eq_true_eq] at hB
    obtain ⟨⟨⟨hr, hf⟩, hih⟩, hB'⟩ := hB
    have hr' : i ∈ Region.ready md ops listed := by simpa using hr
    rw [List.filterMap_cons, ho] at hh
    obtain ⟨v, hy, hK⟩ := hh
    rw [List.length_cons, show is.length + 1 + ms.length = (is.length + ms.length) + 1 by omega]
    exact wpAnyHL_first ho (Region.noSelect_spec hsel) hs hc hn hih (fun c a w => hQ c a _ _ w) (fun listed' a' w' hL => seqB_ready hL.1) (is.length + ms.length) listed a w inv (Region.free_spec ho hf) hr' hy hS
      (wpAnyHL_readsM hS hsel hs hc hn hQ is _ _ hsome.2 (inv.set hr' hih) hB' hK)

theorem wp_region_held_seq {id : Nat} {l : List Oper} {a : Act} {w : World} (idx ms : List Nat) (h : Nat) (S : World → Prop) (hm : P.follows .mixedOrders = true) (hB : heldMB .any l.toArray idx ms h = true) (hr : (pick l idx).all readB = true)
    (hQ : ∀ c a d v w, Q (.panic c) (Act.put a d v) w → Q (.panic c) a w) (hS : S w.drew)
    (hh : wpQuiet P l.toArray S (fun a' => chainM P l.toArray Q S (fun a2 w2 => wpList P l.toArray Q (l.drop h) a2 w2) ms a' w.drew) (pick l idx) a) :
    (Code.region id l.toArray true).wp P Q a w := by
  refine wp_region_any hm ?_
  simp only [heldMB, Bool.and_eq_true, decide_eq_true_eq] at hB
  obtain ⟨⟨⟨⟨⟨⟨hsel, hn⟩, hlen⟩, hs⟩, hc⟩, hsome⟩, hlex⟩ := hB
  have hdl : (l.drop h).length = l.toArray.size - h := by simp
  have inv0 : HeadInv .any l.toArray h (Array.replicate l.toArray.size false) :=
    ⟨by simp, fun j oj _ hl => (by rw [getD_replicate_false] at hl; cases hl), fun t _ ht => getD_in (by simpa using ht) (getD_replicate_false _ _)⟩
  have hp : (idx.filterMap fun i => l.toArray[i]?) = pick l idx := by simp [pick]
  have H := wpAnyHL_readsM (g := l.toArray.size - h) (K := fun a2 w2 => wpList P l.toArray Q (l.drop h) a2 w2) hS hsel hs hc hn hQ idx _ a hsome inv0 hlex (by rw [hp]; exact reads_of_quiet _ _ hr hh)
  have := wpAny_of_headH (g := l.toArray.size - h) (fun listed a' w' hL => by
    have := wpAny_of_seq (md := .any) (Q' := Q) (l.drop h) h listed a' w' (fun j => by simp [List.getElem?_drop]) (by rw [hdl]; exact hL.1) hL.2
    rwa [hdl] at this) _ _ _ _ H
  rw [hlen, show h + (l.toArray.size - h) = l.toArray.size by omega] at this
  exact this

/-- One operation of a chain, by a law on sequences. -/
theorem wpOp_list {i : Nat} {o : Oper} {K : Act → World → Prop} {a : Act} {w : World} (ho : ops[i]? = some o) (hg : o.guard = none) (h : wpList P ops (Exit.then K Q) [o] a w) : wpOp P ops Q i K a w := by
  have hw : Region.wanted o (yielded ops a.tmps) = true := by simp [Region.wanted, hg]
  unfold wpList at h
  rw [if_pos hw] at h
  unfold wpOp
  simp only [ho, hw, if_true]
  rcases h with h | h
  · exact .inl h
  · exact .inr h
end

/-- Two worlds under one name. -/
theorem two_worlds (W0 W1 : World) : ∃ f : Nat → World, f 0 = W0 ∧ f 1 = W1 ∧ ∀ Q : World → Prop, Q W0 → Q W1 → ∀ n, Q (f n) :=
  ⟨fun n => if n = 0 then W0 else W1, rfl, rfl, fun Q h0 h1 n => by by_cases e : n = 0 <;> simp [e, h0, h1]⟩
/-- All worlds in which what lay in W lies as it did, under one name. -/
theorem later_worlds (W : World) : ∃ (ι : Type) (_ : Nonempty ι) (f : ι → World), (∀ n, Below W.heap.size W (f n)) ∧ Hid (∀ V, Below W.heap.size W V → ∃ n, V = f n) :=
  ⟨{V : World // Below W.heap.size W V}, ⟨⟨W, Below.refl _ _⟩⟩, fun n => n.1, fun n => n.2, Lib.hid fun V hV => ⟨⟨V, hV⟩, rfl⟩⟩
theorem cell_alloc' {W : World} {p : Addr} {v : Value} (h : W.cell? p = some v) (o : Obj) : (W.alloc o).cell? p = some v :=
  (World.cell?_of_block (Deep.blk_alloc_lt _ _ _ (World.block_lt_of_cell? _ _ h))).trans h
end Go.Proofs.YthaamnjpjkkolabDoor
