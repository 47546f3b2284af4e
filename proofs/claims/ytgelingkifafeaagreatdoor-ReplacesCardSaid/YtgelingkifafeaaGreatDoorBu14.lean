import Derived.Test.YtgelingkifafeaaGreatDoorBu13
import Derived.OrdersHeld
import Derived.Deep.Quiet
import Derived.Below
import Derived.Lib.Hide
import Derived.WalkKit
import Derived.BigQuiet
import Derived.StillTail
/- A region that draws: reads, then one operation that may make memory and of which the reads need not know, then a sequence that waits for all. -/
namespace Go.Proofs.YtgelingkifafeaaGreatDoor
open Go

section
variable {P : Program} {ops : Array Oper} {Q : Exit → Act → World → Prop} {md : Region.Mode} {S : World → Prop} {n : Nat}

/-- So many operations of the head are still to come; S holds behind each; then L. -/
def wpAnyHL (P : Program) (md : Region.Mode) (ops : Array Oper) (Q : Exit → Act → World → Prop) (S : World → Prop) (n : Nat) (L : Array Bool → Act → World → Prop) : Nat → Array Bool → Act → World → Prop
  | 0, listed, a, w => L listed a w
  | f + 1, listed, a, w => Region.ready md ops listed ≠ [] ∧ ∀ i ∈ Region.ready md ops listed, i < n ∧ wpOp P ops Q i (fun a' w' => S w' ∧ wpAnyHL P md ops Q S n L f (listed.setIfInBounds i true) a' w') a w

theorem wpAny_of_headH {g : Nat} {L : Array Bool → Act → World → Prop} (hL : ∀ listed a w, L listed a w → wpAny P md ops Q g listed a w) :
    ∀ (f : Nat) (listed : Array Bool) (a : Act) (w : World), wpAnyHL P md ops Q S n L f listed a w → wpAny P md ops Q (f + g) listed a w
  | 0, listed, a, w, h => by rw [Nat.zero_add]; exact hL _ _ _ h
  | f + 1, listed, a, w, h => by
    rw [show f + 1 + g = (f + g) + 1 by omega]
    exact ⟨fun h0 => absurd h0 h.1, fun i hi => wpOp_mono (fun a' w' h' => wpAny_of_headH hL f _ a' w' h'.2) (h.2 i hi).2⟩

theorem wpAnyHL_first {i : Nat} {oi : Oper} {v : Value} {L : Array Bool → Act → World → Prop} (hi : ops[i]? = some oi) (hsel : ∀ (j : Nat) (o : Oper) cs b, ops[j]? = some o → o.op ≠ .select cs b)
    (hs : Region.sinkB md ops n = true) (hc : Region.chainB md ops n = true) (hn : n < ops.size) (hin : i < n)
    (hQ : ∀ c a w, Q (.panic c) (a.put oi.dst v) w → Q (.panic c) a w)
    (hdone : ∀ listed a w, L listed a w → ∀ j ∈ Region.ready md ops listed, n ≤ j) :
    ∀ (f : Nat) (listed : Array Bool) (a : Act) (w : World), HeadInv md ops n listed →
      (∀ (j : Nat) (oj : Oper), ops[j]? = some oj → j ≠ i → listed.getD j true = false → (∀ e ∈ oj.after, Region.binds md e = true → e.on ≠ i) → oi.apart ops oj = true) →
      i ∈ Region.ready md ops listed → YieldsIf P ops S oi v a → S w →
      wpAnyHL P md ops Q S n L f (listed.setIfInBounds i true) (a.put oi.dst v) w → wpAnyHL P md ops Q S n L (f + 1) listed a w := by
  intro f
  induction f with
  | zero =>
    intro listed a w inv _ hr hy hS H
    have hun := (mem_ready.1 hr).1
    refine ⟨fun h => (by rw [h] at hr; cases hr), fun j hj => ?_⟩
    have hjn : j < n := by
      rcases Nat.lt_or_ge j n with h | h
      · exact h
      · exact absurd hj (tail_waits hs hc hn inv _ i rfl hin hun j h)
    refine ⟨hjn, ?_⟩
    by_cases hji : j = i
    · subst hji; exact hy.wpOp hi hS ⟨hS, H⟩
    · have := hdone _ _ _ H j (ready_mono hj hji)
      omega
  | succ f ih =>
    intro listed a w inv hfree hr hy hS H
    have hun := (mem_ready.1 hr).1
    refine ⟨fun h => (by rw [h] at hr; cases hr), fun j hj => ?_⟩
    have hjn : j < n := by
      rcases Nat.lt_or_ge j n with h | h
      · exact h
      · exact absurd hj (tail_waits hs hc hn inv _ i rfl hin hun j h)
    refine ⟨hjn, ?_⟩
    by_cases hji : j = i
    · subst hji; exact hy.wpOp hi hS ⟨hS, H⟩
    · have h1 := (H.2 j (ready_mono hj hji)).2
      obtain ⟨hjun, oj, hoj, hall⟩ := mem_ready.1 hj
      have hnot : ∀ e ∈ oj.after, Region.binds md e = true → e.on ≠ i := fun e he hb heq => by
        have h1 := hall e he hb
        rw [heq, getD_both hun] at h1
        cases h1
      have h2 := wpOp_putIf hoj (hfree j oj hoj hji hjun hnot) (fun cs b => hsel i oi cs b hi) (fun cs b => hsel j oj cs b hoj) hQ hy h1
      have hfree' : ∀ (k : Nat) (ok : Oper), ops[k]? = some ok → k ≠ i → (listed.setIfInBounds j true).getD k true = false →
          (∀ e ∈ ok.after, Region.binds md e = true → e.on ≠ i) → oi.apart ops ok = true := fun k ok hk hki hun hno => by
        refine hfree k ok hk hki ?_ hno
        by_cases hjk : j = k
        · subst hjk; exact hjun
        · rw [getD_set_ne true hjk] at hun; exact hun
      refine wpOp_mono (fun a' w' h3 => ⟨h3.2.1, ih (listed.setIfInBounds j true) a' w' (inv.set hj hjn) hfree' (ready_mono hr (Ne.symm hji)) h3.1 h3.2.1 ?_⟩) h2
      rw [Array.setIfInBounds_comm _ _ hji]
      exact h3.2.2

/-- Reads, in the order of the text. -/
def wpReads (P : Program) (ops : Array Oper) (S : World → Prop) (K : Act → Prop) : List Oper → Act → Prop
  | [], a => K a
  | o :: rest, a => ∃ v, YieldsIf P ops S o v a ∧ wpReads P ops S K rest (a.put o.dst v)

/-- May the reads be taken in the order of the text, is number m alone ready behind them, and the rest a sequence? -/
def readsB (md : Region.Mode) (ops : Array Oper) (g : Nat) : Nat → Nat → Array Bool → Bool
  | 0, k, listed => decide (Region.ready md ops listed = [k]) && Region.seqB md ops g (k + 1) (listed.setIfInBounds k true)
  | f + 1, k, listed => (Region.ready md ops listed).contains k && Region.free md ops listed k && readsB md ops g f (k + 1) (listed.setIfInBounds k true)
def heldTailB (md : Region.Mode) (ops : Array Oper) (m : Nat) : Bool :=
  Region.noSelect ops && decide (m + 1 < ops.size) && Region.sinkB md ops (m + 1) && Region.chainB md ops (m + 1) && readsB md ops (ops.size - (m + 1)) m 0 (Array.replicate ops.size false)

theorem wpAnyHL_reads {g m : Nat} {K : Act → World → Prop} {w : World} (hS : S w) (hsel : Region.noSelect ops = true) (hs : Region.sinkB md ops (m + 1) = true) (hc : Region.chainB md ops (m + 1) = true) (hn : m + 1 < ops.size)
    (hQ : ∀ c a d v w, Q (.panic c) (Act.put a d v) w → Q (.panic c) a w) :
    ∀ (l : List Oper) (k : Nat) (listed : Array Bool) (a : Act), (∀ j, j < l.length → l[j]? = ops[k + j]?) → k + l.length = m → HeadInv md ops (m + 1) listed →
    readsB md ops g l.length k listed = true → wpReads P ops S (fun a' => wpOp P ops Q m (fun a2 w2 => S w2 ∧ K a2 w2) a' w) l a →
    wpAnyHL P md ops Q S (m + 1) (fun listed' a' w' => Region.seqB md ops g (m + 1) listed' = true ∧ K a' w') (l.length + 1) listed a w
  | [], k, listed, a, hl, hk, inv, hB, h => by
    have : k = m := by simpa using hk
    subst this
    simp only [List.length_nil, readsB, Bool.and_eq_true, decide_eq_true_eq] at hB
    have h' : wpOp P ops Q k (fun a2 w2 => S w2 ∧ K a2 w2) a w := h
    refine ⟨by rw [hB.1]; simp, fun i hi => ?_⟩
    rw [hB.1] at hi
    have hik : i = k := by simpa using hi
    rw [hik]
    exact ⟨by omega, wpOp_mono (fun a' w' h2 => ⟨h2.1, hB.2, h2.2⟩) h'⟩
  | o :: l, k, listed, a, hl, hk, inv, hB, h => by
    have h0 : ops[k]? = some o := by simpa using (hl 0 (by simp)).symm
    simp only [List.length_cons, readsB, Bool.and_eq_true] at hB
    obtain ⟨⟨hr, hf⟩, hB'⟩ := hB
    have hkn : k < m + 1 := by simp only [List.length_cons] at hk; omega
    have hr' : k ∈ Region.ready md ops listed := by simpa using hr
    obtain ⟨v, hy, hK⟩ := h
    exact wpAnyHL_first h0 (Region.noSelect_spec hsel) hs hc hn hkn (fun c a w => hQ c a _ _ w) (fun listed' a' w' hL => seqB_ready hL.1) (l.length + 1) listed a w inv (Region.free_spec h0 hf) hr' hy hS
      (wpAnyHL_reads hS hsel hs hc hn hQ l (k + 1) _ _ (fun j hj => by have := hl (j + 1) (by simp; omega); simpa [Nat.add_assoc, Nat.add_comm 1 j] using this) (by simp only [List.length_cons] at hk; omega) (inv.set hr' hkn) hB' hK)

theorem wpAny_held_tail {l : List Oper} {a : Act} {w : World} (m : Nat) (hB : heldTailB md l.toArray m = true) (hS : S w) (hQ : ∀ c a d v w, Q (.panic c) (Act.put a d v) w → Q (.panic c) a w)
    (h : wpReads P l.toArray S (fun a' => wpOp P l.toArray Q m (fun a2 w2 => S w2 ∧ wpList P l.toArray Q (l.drop (m + 1)) a2 w2) a' w) (l.take m) a) :
    wpAny P md l.toArray Q l.toArray.size (Array.replicate l.toArray.size false) a w := by
  simp only [heldTailB, Bool.and_eq_true, decide_eq_true_eq] at hB
  obtain ⟨⟨⟨⟨hsel, hn⟩, hs⟩, hc⟩, hlex⟩ := hB
  have hn' : m + 1 < l.length := by simpa using hn
  have htl : (l.take m).length = m := by simp; omega
  have hdl : (l.drop (m + 1)).length = l.toArray.size - (m + 1) := by simp
  have inv0 : HeadInv md l.toArray (m + 1) (Array.replicate l.toArray.size false) :=
    ⟨by simp, fun j oj _ hl => (by rw [getD_replicate_false] at hl; cases hl), fun t _ ht => getD_in (by simpa using ht) (getD_replicate_false _ _)⟩
  have H := wpAnyHL_reads (g := l.toArray.size - (m + 1)) (K := fun a2 w2 => wpList P l.toArray Q (l.drop (m + 1)) a2 w2) hS hsel hs hc hn hQ (l.take m) 0 _ a (fun j hj => by
    have hj' : j < m := by rw [htl] at hj; exact hj
    simp [hj']) (by simpa using htl) inv0 (by rw [htl]; exact hlex) h
  have := wpAny_of_headH (g := l.toArray.size - (m + 1)) (fun listed a' w' hL => by
    have := wpAny_of_seq (md := md) (Q' := Q) (l.drop (m + 1)) (m + 1) listed a' w' (fun j => by simp [List.getElem?_drop]) (by rw [hdl]; exact hL.1) hL.2
    rwa [hdl] at this) _ _ _ _ H
  rw [htl, show m + 1 + (l.toArray.size - (m + 1)) = l.toArray.size by omega] at this
  exact this

theorem wpOp_of {i : Nat} {o : Oper} {K : Act → World → Prop} {a : Act} {w : World} (ho : ops[i]? = some o) (hg : o.guard = none) (h : o.wp P a w K Q) : wpOp P ops Q i K a w := by
  have hw : Region.wanted o (yielded ops a.tmps) = true := by simp [Region.wanted, hg]
  unfold wpOp
  simp only [ho, hw, if_true]
  exact .inl h

theorem wpIn_region_held_tail {F : Fence} {n id : Nat} {l : List Oper} {a : Act} {w : World} (m : Nat) (S : World → Prop) (hm : P.follows .mixedOrders = true) (hB : heldTailB .any l.toArray m = true) (hd : l.all dullB = true) (hQ0 : ¬ LetsOut Q)
    (hQ : ∀ c a d v w, Q (.panic c) (Act.put a d v) w → Q (.panic c) a w) (hS : S w.drew)
    (h : wpReads P l.toArray S (fun a' => wpOp P l.toArray Q m (fun a2 w2 => S w2 ∧ wpList P l.toArray Q (l.drop (m + 1)) a2 w2) a' w.drew) (l.take m) a) :
    (Code.region id l.toArray true).wpIn F n P Q a w :=
  wpIn_region_any hm (wpAnyIn_of_dull (fun i o ho => List.all_eq_true.1 hd o (by
    have : l[i]? = some o := by simpa using ho
    exact List.mem_of_getElem? this)) hQ0 _ _ _ _ (wpAny_held_tail m hB hS hQ h))
end
end Go.Proofs.YtgelingkifafeaaGreatDoor

/- A region that draws: reads, one operation that makes memory and of which the reads need not know, then a sequence that waits for all: the reads by the quiet walk. -/
namespace Go.Proofs.YtgelingkifafeaaGreatDoor
open Go Go.RowKit Go.Proofs

/-- Operations that only read. -/
def readB (o : Oper) : Bool :=
  match o.op with
  | .move _ | .assign _ | .load _ _ | .fieldAddr _ _ _ | .indexAddr _ _ _ | .build _ _ | .convert _ _ _ | .binOp _ _ _ _ _ | .unOp _ _ _ | .pick _ _ _ | .extract _ _ | .nilCheck _ | .slice _ _ _ _ _ | .sliceToArrayPointer _ _ | .index _ _ _ | .field _ _ _ => true
  | .call c => (match c.callee with | .builtin .len => true | .builtin .max => true | .builtin .min => true | _ => false)
  | _ => false

def Plain (r : Result Next) : Prop := (∃ v w', r = .ok (.value v) w') ∨ ∃ h w', r = .halt h w'
theorem plain_value {P : Program} (s : Sem Value) (w : World) : Plain ((do pure (.value (← s)) : Sem Next).run P w) := by
  simp only [Sem.run_bind, Sem.run_pure]
  cases s.run P w with
  | ok v w' => exact .inl ⟨v, w', rfl⟩
  | halt h w' => exact .inr ⟨h, w', rfl⟩
theorem plain_pure {P : Program} (v : Value) (w : World) : Plain ((pure (.value v) : Sem Next).run P w) := .inl ⟨v, w, rfl⟩

theorem plain_op {P : Program} {o : Oper} (hd : readB o = true) (ρ : Operand → Value) (w : World) : Plain ((execOp ρ o).run P w) := by
  unfold execOp
  cases ho : o.op with
  | move x => exact plain_pure _ w
  | assign x => exact plain_pure _ w
  | load t a => exact plain_value _ w
  | fieldAddr s x f => exact plain_value _ w
  | slice t x l h m => exact plain_value _ w
  | sliceToArrayPointer t x => exact plain_value _ w
  | index t x i => exact plain_value _ w
  | field t x i => exact plain_value _ w
  | indexAddr t x i => exact plain_value _ w
  | build t parts => exact plain_value _ w
  | convert s d x => exact plain_value _ w
  | binOp b t x y u => exact plain_value _ w
  | unOp u t x => exact plain_value _ w
  | pick c x y =>
    dsimp only
    simp only [Sem.run_bind, Sem.run_pure]
    cases (asBool (ρ c)).run P w with
    | ok v w' => exact .inl ⟨_, w', rfl⟩
    | halt h w' => exact .inr ⟨h, w', rfl⟩
  | extract x i => dsimp only; exact plain_value _ w
  | nilCheck x =>
    simp only []
    have hp : Plain ((runtimePanic .nilDeref : Sem Next).run P w) := by
      refine .inr ?_
      unfold runtimePanic
      simp only [Sem.run_bind]
      cases (program).run P w with
      | ok p w' => exact ⟨_, _, rfl⟩
      | halt h w' => exact ⟨_, _, rfl⟩
    split
    · exact hp
    · exact hp
    · exact hp
    · split
      · exact hp
      · simp only [Sem.run_bind]
        cases (program).run P w with
        | halt h w' => exact .inr ⟨_, _, rfl⟩
        | ok p w' =>
          simp only [Result.andThen]
          generalize (nilAhead _ _ _ _).run P w' = r
          cases r with
          | halt h w' => exact .inr ⟨_, _, rfl⟩
          | ok b w2 =>
            dsimp only
            split
            · exact .inr ⟨_, _, rfl⟩
            · exact plain_pure _ w2
      · exact plain_pure _ w
    · exact plain_pure _ w
  | call c =>
    cases hc : c.callee with
    | builtin b =>
      cases b with
      | len =>
        simp only [Sem.run_bind, resolve, hc, Sem.run_pure, Result.andThen, invoke, builtin]
        generalize (Builtin.len_ _ _ _).run P w = r
        cases r with
        | ok v w' => exact .inl ⟨v, w', rfl⟩
        | halt h w' => exact .inr ⟨h, w', rfl⟩
      | max =>
        simp only [Sem.run_bind, resolve, hc, Sem.run_pure, Result.andThen, invoke, builtin]
        generalize (Builtin.max_ _ _ _).run P w = r
        cases r with
        | ok v w' => exact .inl ⟨v, w', rfl⟩
        | halt h w' => exact .inr ⟨h, w', rfl⟩
      | min =>
        simp only [Sem.run_bind, resolve, hc, Sem.run_pure, Result.andThen, invoke, builtin]
        generalize (Builtin.min_ _ _ _).run P w = r
        cases r with
        | ok v w' => exact .inl ⟨v, w', rfl⟩
        | halt h w' => exact .inr ⟨h, w', rfl⟩
      | _ => simp [readB, ho, hc] at hd
    | _ => simp [readB, ho, hc] at hd
  | _ => simp [readB, ho] at hd

section
variable {P : Program} {ops : Array Oper} {S : World → Prop}
theorem reads_of_quiet {K : Act → Prop} : ∀ (l : List Oper) (a : Act), l.all readB = true → wpQuiet P ops S K l a → wpReads P ops S K l a
  | [], _, _, h => h
  | o :: l, a, hd, h => by
    simp only [List.all_cons, Bool.and_eq_true] at hd
    unfold wpQuiet at h
    by_cases hw : Region.wanted o (yielded ops a.tmps) = true
    · rw [if_pos hw] at h
      obtain ⟨v, h1, h2⟩ := h
      refine ⟨v, .inl ⟨hw, fun w hS => ?_⟩, reads_of_quiet l _ hd.2 h2⟩
      have h3 := h1 w hS
      unfold Oper.quietAt at h3
      rcases plain_op (P := P) hd.1 a.eval w with ⟨u, w', e⟩ | ⟨x, w', e⟩
      · rw [e] at h3 ⊢
        obtain ⟨rfl, rfl⟩ := h3
        rfl
      · rw [e] at h3
        exact h3.elim
    · rw [if_neg hw] at h
      exact ⟨undef, .inr ⟨by simpa using hw, rfl⟩, reads_of_quiet l _ hd.2 h⟩

theorem wp_region_held_quiet {id : Nat} {Q : Exit → Act → World → Prop} {l : List Oper} {a : Act} {w : World} (m : Nat) (S : World → Prop) (hm : P.follows .mixedOrders = true) (hB : heldTailB .any l.toArray m = true) (hr : (l.take m).all readB = true)
    (hQ : ∀ c a d v w, Q (.panic c) (Act.put a d v) w → Q (.panic c) a w) (hS : S w.drew)
    (h : wpQuiet P l.toArray S (fun a' => wpOp P l.toArray Q m (fun a2 w2 => S w2 ∧ wpList P l.toArray Q (l.drop (m + 1)) a2 w2) a' w.drew) (l.take m) a) :
    (Code.region id l.toArray true).wp P Q a w :=
  wp_region_any hm (wpAny_held_tail m hB hS hQ (reads_of_quiet _ _ hr h))
end

/-! ### The same, the reads in an order that is named, the one that makes memory wherever it stands -/

def pick (l : List Oper) (idx : List Nat) : List Oper := idx.filterMap fun i => l[i]?

def readsO (md : Region.Mode) (ops : Array Oper) (g m h : Nat) : List Nat → Array Bool → Bool
  | [], listed => decide (Region.ready md ops listed = [m]) && decide (m < h) && Region.seqB md ops g h (listed.setIfInBounds m true)
  | i :: is, listed => (Region.ready md ops listed).contains i && Region.free md ops listed i && decide (i < h) && readsO md ops g m h is (listed.setIfInBounds i true)
def heldOB (md : Region.Mode) (ops : Array Oper) (idx : List Nat) (m h : Nat) : Bool :=
  Region.noSelect ops && decide (h < ops.size) && decide (idx.length + 1 = h) && Region.sinkB md ops h && Region.chainB md ops h && idx.all (fun i => (ops[i]?).isSome) && readsO md ops (ops.size - h) m h idx (Array.replicate ops.size false)

section
variable {P : Program} {ops : Array Oper} {Q : Exit → Act → World → Prop} {md : Region.Mode} {S : World → Prop}
theorem wpAnyHL_readsO {g m h : Nat} {K : Act → World → Prop} {w : World} (hS : S w) (hsel : Region.noSelect ops = true) (hs : Region.sinkB md ops h = true) (hc : Region.chainB md ops h = true) (hn : h < ops.size)
    (hQ : ∀ c a d v w, Q (.panic c) (Act.put a d v) w → Q (.panic c) a w) :
    ∀ (is : List Nat) (listed : Array Bool) (a : Act), is.all (fun i => (ops[i]?).isSome) = true → HeadInv md ops h listed →
    readsO md ops g m h is listed = true → wpReads P ops S (fun a' => wpOp P ops Q m (fun a2 w2 => S w2 ∧ K a2 w2) a' w) (is.filterMap fun i => ops[i]?) a →
    wpAnyHL P md ops Q S h (fun listed' a' w' => Region.seqB md ops g h listed' = true ∧ K a' w') (is.length + 1) listed a w
  | [], listed, a, _, inv, hB, hh => by
    simp only [readsO, Bool.and_eq_true, decide_eq_true_eq] at hB
    have h' : wpOp P ops Q m (fun a2 w2 => S w2 ∧ K a2 w2) a w := hh
    refine ⟨by rw [hB.1.1]; simp, fun i hi => ?_⟩
    rw [hB.1.1] at hi
    have hik : i = m := by simpa using hi
    rw [hik]
    exact ⟨hB.1.2, wpOp_mono (fun a' w' h2 => ⟨h2.1, hB.2, h2.2⟩) h'⟩
  | i :: is, listed, a, hsome, inv, hB, hh => by
    simp only [List.all_cons, Bool.and_eq_true] at hsome
    obtain ⟨o, ho⟩ := Option.isSome_iff_exists.1 hsome.1
    simp only [readsO, Bool.and_eq_true, decide_eq_true_eq] at hB
    obtain ⟨⟨⟨hr, hf⟩, hih⟩, hB'⟩ := hB
    have hr' : i ∈ Region.ready md ops listed := by simpa using hr
    rw [List.filterMap_cons, ho] at hh
    obtain ⟨v, hy, hK⟩ := hh
    exact wpAnyHL_first ho (Region.noSelect_spec hsel) hs hc hn hih (fun c a w => hQ c a _ _ w) (fun listed' a' w' hL => seqB_ready hL.1) (is.length + 1) listed a w inv (Region.free_spec ho hf) hr' hy hS
      (wpAnyHL_readsO hS hsel hs hc hn hQ is _ _ hsome.2 (inv.set hr' hih) hB' hK)

theorem wp_region_held_order {id : Nat} {l : List Oper} {a : Act} {w : World} (idx : List Nat) (m h : Nat) (S : World → Prop) (hm : P.follows .mixedOrders = true) (hB : heldOB .any l.toArray idx m h = true) (hr : (pick l idx).all readB = true)
    (hQ : ∀ c a d v w, Q (.panic c) (Act.put a d v) w → Q (.panic c) a w) (hS : S w.drew)
    (hh : wpQuiet P l.toArray S (fun a' => wpOp P l.toArray Q m (fun a2 w2 => S w2 ∧ wpList P l.toArray Q (l.drop h) a2 w2) a' w.drew) (pick l idx) a) :
    (Code.region id l.toArray true).wp P Q a w := by
  refine wp_region_any hm ?_
  simp only [heldOB, Bool.and_eq_true, decide_eq_true_eq] at hB
  obtain ⟨⟨⟨⟨⟨⟨hsel, hn⟩, hlen⟩, hs⟩, hc⟩, hsome⟩, hlex⟩ := hB
  have hdl : (l.drop h).length = l.toArray.size - h := by simp
  have inv0 : HeadInv .any l.toArray h (Array.replicate l.toArray.size false) :=
    ⟨by simp, fun j oj _ hl => (by rw [getD_replicate_false] at hl; cases hl), fun t _ ht => getD_in (by simpa using ht) (getD_replicate_false _ _)⟩
  have hp : (idx.filterMap fun i => l.toArray[i]?) = pick l idx := by simp [pick]
  have H := wpAnyHL_readsO (g := l.toArray.size - h) (K := fun a2 w2 => wpList P l.toArray Q (l.drop h) a2 w2) hS hsel hs hc hn hQ idx _ a hsome inv0 hlex (by rw [hp]; exact reads_of_quiet _ _ hr hh)
  have := wpAny_of_headH (g := l.toArray.size - h) (fun listed a' w' hL => by
    have := wpAny_of_seq (md := .any) (Q' := Q) (l.drop h) h listed a' w' (fun j => by simp [List.getElem?_drop]) (by rw [hdl]; exact hL.1) hL.2
    rwa [hdl] at this) _ _ _ _ H
  rw [hlen, show h + (l.toArray.size - h) = l.toArray.size by omega] at this
  exact this
end

/-! ### Reads in an order that is named, then operations that are forced, each of which leaves what the reads need; then the tail -/

def seqM (md : Region.Mode) (ops : Array Oper) (g h : Nat) : List Nat → Array Bool → Bool
  | [], listed => Region.seqB md ops g h listed
  | m :: ms, listed => decide (Region.ready md ops listed = [m]) && decide (m < h) && seqM md ops g h ms (listed.setIfInBounds m true)
def readsM (md : Region.Mode) (ops : Array Oper) (g h : Nat) (ms : List Nat) : List Nat → Array Bool → Bool
  | [], listed => seqM md ops g h ms listed
  | i :: is, listed => (Region.ready md ops listed).contains i && Region.free md ops listed i && decide (i < h) && readsM md ops g h ms is (listed.setIfInBounds i true)
def heldMB (md : Region.Mode) (ops : Array Oper) (idx ms : List Nat) (h : Nat) : Bool :=
  Region.noSelect ops && decide (h < ops.size) && decide (idx.length + ms.length = h) && Region.sinkB md ops h && Region.chainB md ops h && idx.all (fun i => (ops[i]?).isSome) && readsM md ops (ops.size - h) h ms idx (Array.replicate ops.size false)

section
variable {P : Program} {ops : Array Oper} {Q : Exit → Act → World → Prop} {md : Region.Mode} {S : World → Prop}
def chainM (P : Program) (ops : Array Oper) (Q : Exit → Act → World → Prop) (S : World → Prop) (K : Act → World → Prop) : List Nat → Act → World → Prop
  | [], a, w => K a w
  | m :: ms, a, w => wpOp P ops Q m (fun a2 w2 => S w2 ∧ chainM P ops Q S K ms a2 w2) a w

theorem wpAnyHL_seqM {g h : Nat} {K : Act → World → Prop} : ∀ (ms : List Nat) (listed : Array Bool) (a : Act) (w : World), seqM md ops g h ms listed = true → chainM P ops Q S K ms a w →
    wpAnyHL P md ops Q S h (fun listed' a' w' => Region.seqB md ops g h listed' = true ∧ K a' w') ms.length listed a w
  | [], listed, a, w, hB, hK => ⟨hB, hK⟩
  | m :: ms, listed, a, w, hB, hK => by
    simp only [seqM, Bool.and_eq_true, decide_eq_true_eq] at hB
    refine ⟨by rw [hB.1.1]; simp, fun i hi => ?_⟩
    rw [hB.1.1] at hi
    have him : i = m := by simpa using hi
    rw [him]
    exact ⟨hB.1.2, wpOp_mono (fun a' w' h2 => ⟨h2.1, wpAnyHL_seqM ms _ a' w' hB.2 h2.2⟩) hK⟩

theorem wpAnyHL_readsM {g h : Nat} {ms : List Nat} {K : Act → World → Prop} {w : World} (hS : S w) (hsel : Region.noSelect ops = true) (hs : Region.sinkB md ops h = true) (hc : Region.chainB md ops h = true) (hn : h < ops.size)
    (hQ : ∀ c a d v w, Q (.panic c) (Act.put a d v) w → Q (.panic c) a w) :
    ∀ (is : List Nat) (listed : Array Bool) (a : Act), is.all (fun i => (ops[i]?).isSome) = true → HeadInv md ops h listed →
    readsM md ops g h ms is listed = true → wpReads P ops S (fun a' => chainM P ops Q S K ms a' w) (is.filterMap fun i => ops[i]?) a →
    wpAnyHL P md ops Q S h (fun listed' a' w' => Region.seqB md ops g h listed' = true ∧ K a' w') (is.length + ms.length) listed a w
  | [], listed, a, _, inv, hB, hh => by
    have h' : chainM P ops Q S K ms a w := hh
    rw [List.length_nil, Nat.zero_add]
    exact wpAnyHL_seqM ms listed a w hB h'
  | i :: is, listed, a, hsome, inv, hB, hh => by
    simp only [List.all_cons, Bool.and_eq_true] at hsome
    obtain ⟨o, ho⟩ := Option.isSome_iff_exists.1 hsome.1
    simp only [readsM, Bool.and_eq_true, decide_eq_true_eq] at hB
    obtain ⟨⟨⟨hr, hf⟩, hih⟩, hB'⟩ := hB
    have hr' : i ∈ Region.ready md ops listed := by simpa using hr
    rw [List.filterMap_cons, ho] at hh
    obtain ⟨v, hy, hK⟩ := hh
    rw [List.length_cons, show is.length + 1 + ms.length = (is.length + ms.length) + 1 by omega]
    exact wpAnyHL_first ho (Region.noSelect_spec hsel) hs hc hn hih (fun c a w => hQ c a _ _ w) (fun listed' a' w' hL => seqB_ready hL.1) (is.length + ms.length) listed a w inv (Region.free_spec ho hf) hr' hy hS
      (wpAnyHL_readsM hS hsel hs hc hn hQ is _ _ hsome.2 (inv.set hr' hih) hB' hK)

theorem wp_region_held_seq {id : Nat} {l : List Oper} {a : Act} {w : World} (idx ms : List Nat) (h : Nat) (S : World → Prop) (hm : P.follows .mixedOrders = true) (hB : heldMB .any l.toArray idx ms h = true) (hr : (pick l idx).all readB = true)
    (hQ : ∀ c a d v w, Q (.panic c) (Act.put a d v) w → Q (.panic c) a w) (hS : S w.drew)
    (hh : wpQuiet P l.toArray S (fun a' => chainM P l.toArray Q S (fun a2 w2 => wpList P l.toArray Q (l.drop h) a2 w2) ms a' w.drew) (pick l idx) a) :
    (Code.region id l.toArray true).wp P Q a w := by
  refine wp_region_any hm ?_
  simp only [heldMB, Bool.and_eq_true, decide_eq_true_eq] at hB
  obtain ⟨⟨⟨⟨⟨⟨hsel, hn⟩, hlen⟩, hs⟩, hc⟩, hsome⟩, hlex⟩ := hB
  have hdl : (l.drop h).length = l.toArray.size - h := by simp
  have inv0 : HeadInv .any l.toArray h (Array.replicate l.toArray.size false) :=
    ⟨by simp, fun j oj _ hl => (by rw [getD_replicate_false] at hl; cases hl), fun t _ ht => getD_in (by simpa using ht) (getD_replicate_false _ _)⟩
  have hp : (idx.filterMap fun i => l.toArray[i]?) = pick l idx := by simp [pick]
  have H := wpAnyHL_readsM (g := l.toArray.size - h) (K := fun a2 w2 => wpList P l.toArray Q (l.drop h) a2 w2) hS hsel hs hc hn hQ idx _ a hsome inv0 hlex (by rw [hp]; exact reads_of_quiet _ _ hr hh)
  have := wpAny_of_headH (g := l.toArray.size - h) (fun listed a' w' hL => by
    have := wpAny_of_seq (md := .any) (Q' := Q) (l.drop h) h listed a' w' (fun j => by simp [List.getElem?_drop]) (by rw [hdl]; exact hL.1) hL.2
    rwa [hdl] at this) _ _ _ _ H
  rw [hlen, show h + (l.toArray.size - h) = l.toArray.size by omega] at this
  exact this

/-- One operation of a chain, by a law on sequences. -/
theorem wpOp_list {i : Nat} {o : Oper} {K : Act → World → Prop} {a : Act} {w : World} (ho : ops[i]? = some o) (hg : o.guard = none) (h : wpList P ops (Exit.then K Q) [o] a w) : wpOp P ops Q i K a w := by
  have hw : Region.wanted o (yielded ops a.tmps) = true := by simp [Region.wanted, hg]
  unfold wpList at h
  rw [if_pos hw] at h
  unfold wpOp
  simp only [ho, hw, if_true]
  rcases h with h | h
  · exact .inl h
  · exact .inr h
end

/-- Two worlds under one name. -/
theorem two_worlds (W0 W1 : World) : ∃ f : Nat → World, f 0 = W0 ∧ f 1 = W1 ∧ ∀ Q : World → Prop, Q W0 → Q W1 → ∀ n, Q (f n) :=
  ⟨fun n => if n = 0 then W0 else W1, rfl, rfl, fun Q h0 h1 n => by by_cases e : n = 0 <;> simp [e, h0, h1]⟩
/-- All worlds in which what lay in W lies as it did, under one name. -/
theorem later_worlds (W : World) : ∃ (ι : Type) (_ : Nonempty ι) (f : ι → World), (∀ n, Below W.heap.size W (f n)) ∧ Hid (∀ V, Below W.heap.size W V → ∃ n, V = f n) :=
  ⟨{V : World // Below W.heap.size W V}, ⟨⟨W, Below.refl _ _⟩⟩, fun n => n.1, fun n => n.2, Lib.hid fun V hV => ⟨⟨V, hV⟩, rfl⟩⟩
theorem cell_alloc' {W : World} {p : Addr} {v : Value} (h : W.cell? p = some v) (o : Obj) : (W.alloc o).cell? p = some v :=
  (World.cell?_of_block (Deep.blk_alloc_lt _ _ _ (World.block_lt_of_cell? _ _ h))).trans h
end Go.Proofs.YtgelingkifafeaaGreatDoor

/- A region that draws: a head that is quiet in a class of worlds (calls may stand in it), then a forced tail. -/
namespace Go.Proofs.YtgelingkifafeaaGreatDoor
open Go Go.RowKit Go.Proofs

section
variable {P : Program} {ops : Array Oper} {md : Region.Mode} {C : World → Prop}

/-- So many operations of the head are still to come; then L. -/
def wpAnyQL (P : Program) (md : Region.Mode) (ops : Array Oper) (C : World → Prop) (n : Nat) (L : Array Bool → Act → Prop) : Nat → Array Bool → Act → Prop
  | 0, listed, a => L listed a
  | f + 1, listed, a => Region.ready md ops listed ≠ [] ∧ ∀ i ∈ Region.ready md ops listed, i < n ∧ qOp P ops C i (wpAnyQL P md ops C n L f (listed.setIfInBounds i true)) a

theorem wpAny_of_headQ {n g : Nat} {L : Array Bool → Act → Prop} {Q' : Exit → Act → World → Prop} (hL : ∀ listed a w, C w → L listed a → wpAny P md ops Q' g listed a w) :
    ∀ (f : Nat) (listed : Array Bool) (a : Act) (w : World), C w → wpAnyQL P md ops C n L f listed a → wpAny P md ops Q' (f + g) listed a w
  | 0, listed, a, w, hw, h => by rw [Nat.zero_add]; exact hL _ _ _ hw h
  | f + 1, listed, a, w, hw, h => by
    rw [show f + 1 + g = (f + g) + 1 by omega]
    exact ⟨fun h0 => absurd h0 h.1, fun i hi => wpOp_of_qOp hw (fun a' w' hw' => wpAny_of_headQ hL f _ a' w' hw') (h.2 i hi).2⟩

theorem wpAnyQL_first {i n : Nat} {oi : Oper} {v : Value} {L : Array Bool → Act → Prop} (hi : ops[i]? = some oi) (hsel : ∀ (j : Nat) (o : Oper) cs b, ops[j]? = some o → o.op ≠ .select cs b)
    (hs : Region.sinkB md ops n = true) (hc : Region.chainB md ops n = true) (hn : n < ops.size) (hin : i < n) (hdone : ∀ listed a, L listed a → ∀ j ∈ Region.ready md ops listed, n ≤ j) :
    ∀ (f : Nat) (listed : Array Bool) (a : Act), HeadInv md ops n listed →
      (∀ (j : Nat) (oj : Oper), ops[j]? = some oj → j ≠ i → listed.getD j true = false → (∀ e ∈ oj.after, Region.binds md e = true → e.on ≠ i) → oi.apart ops oj = true) →
      i ∈ Region.ready md ops listed → YieldsIn P ops C oi v a →
      wpAnyQL P md ops C n L f (listed.setIfInBounds i true) (a.put oi.dst v) → wpAnyQL P md ops C n L (f + 1) listed a := by
  intro f
  induction f with
  | zero =>
    intro listed a inv _ hr hy H
    have hun := (mem_ready.1 hr).1
    refine ⟨fun h => (by rw [h] at hr; cases hr), fun j hj => ?_⟩
    have hjn : j < n := by
      rcases Nat.lt_or_ge j n with h | h
      · exact h
      · exact absurd hj (tail_waits hs hc hn inv _ i rfl hin hun j h)
    refine ⟨hjn, ?_⟩
    by_cases hji : j = i
    · subst hji; exact hy.qOp hi H
    · have := hdone _ _ H j (ready_mono hj hji)
      omega
  | succ f ih =>
    intro listed a inv hfree hr hy H
    have hun := (mem_ready.1 hr).1
    refine ⟨fun h => (by rw [h] at hr; cases hr), fun j hj => ?_⟩
    have hjn : j < n := by
      rcases Nat.lt_or_ge j n with h | h
      · exact h
      · exact absurd hj (tail_waits hs hc hn inv _ i rfl hin hun j h)
    refine ⟨hjn, ?_⟩
    by_cases hji : j = i
    · subst hji; exact hy.qOp hi H
    · have h1 := (H.2 j (ready_mono hj hji)).2
      obtain ⟨hjun, oj, hoj, hall⟩ := mem_ready.1 hj
      have hnot : ∀ e ∈ oj.after, Region.binds md e = true → e.on ≠ i := fun e he hb heq => by
        have h1 := hall e he hb
        rw [heq, getD_both hun] at h1
        cases h1
      have h2 := qOp_put hoj (hfree j oj hoj hji hjun hnot) (fun cs b => hsel i oi cs b hi) (fun cs b => hsel j oj cs b hoj) hy h1
      have hfree' : ∀ (k : Nat) (ok : Oper), ops[k]? = some ok → k ≠ i → (listed.setIfInBounds j true).getD k true = false →
          (∀ e ∈ ok.after, Region.binds md e = true → e.on ≠ i) → oi.apart ops ok = true := fun k ok hk hki hun hno => by
        refine hfree k ok hk hki ?_ hno
        by_cases hjk : j = k
        · subst hjk; exact hjun
        · rw [getD_set_ne true hjk] at hun; exact hun
      refine qOp_mono (fun a' h3 => ih (listed.setIfInBounds j true) a' (inv.set hj hjn) hfree' (ready_mono hr (Ne.symm hji)) h3.1 ?_) h2
      rw [Array.setIfInBounds_comm _ _ hji]
      exact h3.2

theorem wpAnyQL_lex {n g : Nat} {Lq : Act → Prop} (hsel : Region.noSelect ops = true) (hs : Region.sinkB md ops n = true) (hc : Region.chainB md ops n = true) (hn : n < ops.size) :
    ∀ (l : List Oper) (k : Nat) (listed : Array Bool) (a : Act), (∀ j, j < l.length → l[j]? = ops[k + j]?) → k + l.length = n → HeadInv md ops n listed →
    Region.lexHead md ops g l.length k listed = true → wpQuiet P ops C Lq l a →
    wpAnyQL P md ops C n (fun listed' a' => Region.seqB md ops g n listed' = true ∧ Lq a') l.length listed a
  | [], k, listed, a, _, hk, _, hB, h => by
    have : k = n := by simpa using hk
    subst this
    exact ⟨by simpa [Region.lexHead] using hB, h⟩
  | o :: l, k, listed, a, hl, hk, inv, hB, h => by
    have h0 : ops[k]? = some o := by simpa using (hl 0 (by simp)).symm
    simp only [List.length_cons, Region.lexHead, Bool.and_eq_true] at hB
    obtain ⟨⟨hr, hf⟩, hB'⟩ := hB
    have hkn : k < n := by simp only [List.length_cons] at hk; omega
    have hr' : k ∈ Region.ready md ops listed := by simpa using hr
    have hst : qOp P ops C k (wpQuiet P ops C Lq l) a := by unfold qOp; simp only [h0]; exact h
    obtain ⟨v, hy, hK⟩ := yieldsIn_of_qOp h0 hst
    exact wpAnyQL_first h0 (Region.noSelect_spec hsel) hs hc hn hkn (fun listed' a' hL => seqB_ready hL.1) l.length listed a inv (Region.free_spec h0 hf) hr' hy
      (wpAnyQL_lex hsel hs hc hn l (k + 1) _ _ (fun j hj => by have := hl (j + 1) (by simp; omega); simpa [Nat.add_assoc, Nat.add_comm 1 j] using this) (by simp only [List.length_cons] at hk; omega) (inv.set hr' hkn) hB' hK)

/-- A quiet head of n operations, then the tail as a sequence, from every world of the class. -/
theorem wp_region_quiet_tail {id : Nat} {Q : Exit → Act → World → Prop} {a : Act} {w : World} {l : List Oper} (n : Nat) (C : World → Prop) (hm : P.follows .mixedOrders = true) (hB : Region.lexTailB .any l.toArray n = true) (hC : C w.drew)
    (h : wpQuiet P l.toArray C (fun a' => ∀ w', C w' → wpList P l.toArray Q (l.drop n) a' w') (l.take n) a) : (Code.region id l.toArray true).wp P Q a w := by
  simp only [Region.lexTailB, Bool.and_eq_true, decide_eq_true_eq] at hB
  obtain ⟨⟨⟨⟨hsel, hn⟩, hs⟩, hc⟩, hlex⟩ := hB
  have hn' : n < l.length := by simpa using hn
  have htl : (l.take n).length = n := by simp; omega
  have hdl : (l.drop n).length = l.toArray.size - n := by simp
  have inv0 : HeadInv .any l.toArray n (Array.replicate l.toArray.size false) :=
    ⟨by simp, fun j oj _ hl => (by rw [getD_replicate_false] at hl; cases hl), fun t _ ht => getD_in (by simpa using ht) (getD_replicate_false _ _)⟩
  have H := wpAnyQL_lex (md := .any) (C := C) (g := l.toArray.size - n) hsel hs hc hn (l.take n) 0 _ a (fun j hj => by
    have hj' : j < n := by rw [htl] at hj; exact hj
    simp [hj']) (by simpa using htl) inv0 (by rw [htl]; exact hlex) h
  refine wp_region_any hm ?_
  have := wpAny_of_headQ (Q' := Q) (g := l.toArray.size - n) (fun listed a' w' hw' hL => by
    have := wpAny_of_seq (md := .any) (Q' := Q) (l.drop n) n listed a' w' (fun j => by simp [List.getElem?_drop]) (by rw [hdl]; exact hL.1) (hL.2 w' hw')
    rwa [hdl] at this) _ _ _ _ hC H
  rw [htl, show n + (l.toArray.size - n) = l.toArray.size by omega] at this
  exact this
end

/-- A callee that answers v and makes memory alone keeps the class of later worlds. -/
theorem Calls.quiet_below {P : Program} {f : FuncId} {args : Array Value} {v : Value} {W : World} {ι : Type} {wB : ι → World} {n : ι} (hw : Below W.heap.size W (wB n)) (hall : ∀ V, Below W.heap.size W V → ∃ m, V = wB m)
    (h : Calls P f args (wB n) fun e w' => e = .returned v ∧ Below (wB n).heap.size (wB n) w') : Calls P f args (wB n) fun e w'' => e = .returned v ∧ ∃ m, w'' = wB m :=
  h.mono fun _ _ ⟨he, hm⟩ => ⟨he, hall _ (hw.trans (hm.mono hw.size))⟩
end Go.Proofs.YtgelingkifafeaaGreatDoor
