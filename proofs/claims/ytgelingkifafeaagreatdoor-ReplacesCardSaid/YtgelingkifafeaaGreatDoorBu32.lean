import Derived.Test.YtgelingkifafeaaGreatDoorBu14
import Derived.Test.YtgelingkifafeaaGreatDoorBu13
import Derived.RangeFuncNested
/- A region that draws, in a round of a loop over an iterator, by its plain walk (the wide fence). -/
namespace Go.Proofs.YtgelingkifafeaaGreatDoor
open Go

def deferB (o : Oper) : Bool := match o.op with | .defer _ => true | _ => false

section
variable {P : Program} {ops : Array Oper} {Q : Exit → Act → World → Prop} {md : Region.Mode} {lr n : Nat}

theorem no_defer {o : Oper} (h : deferB o = false) : ∀ c, o.op ≠ .defer c := by
  intro c e; simp [deferB, e] at h

/-- No panic is let out. -/
def noPanic (Q : Exit → Act → World → Prop) : Exit → Act → World → Prop := fun e a w => (∀ c, e ≠ .panic c) ∧ Q e a w
theorem wp_noPanic {c : Code} {a : Act} {w : World} (h : c.wp P (noPanic Q) a w) : c.wp P Q a w := wp_mono h fun _ _ _ h => h.2
theorem noPanic_put : ∀ c a d v w, noPanic Q (.panic c) (Act.put a d v) w → noPanic Q (.panic c) a w := fun c _ _ _ _ h => absurd rfl (h.1 c)
theorem noPanic_normal {a : Act} {w : World} (h : Q .normal a w) : noPanic Q .normal a w := ⟨(fun c e => by cases e), h⟩

theorem rowsIn_wide {row : String} {args : Array Value} {w : World} {R : Value → World → Prop} (h : Rows P row args w R) : RowsIn (Fence.wide.inRound lr) n P row args w R :=
  fun c cs _ => let ⟨v, w', r, s⟩ := h c cs; ⟨v, w', r, stepsIn_wide.2 s⟩

theorem opIn_of_wide {o : Oper} (hd : deferB o = false) {a : Act} {w : World} {K : Act → World → Prop} (h : o.wp P a w K Q) : o.wpIn (Fence.wide.inRound lr) n P a w K Q := by
  refine ⟨fun _ _ => trivial, ?_⟩
  rw [Oper.semAt_eq _ _ _ (no_defer hd)]
  unfold Oper.wp at h
  generalize (execOp a.eval o).run P w = r at *
  cases r with
  | ok x w' =>
    cases x with
    | value v => exact h
    | skip => exact h
    | defer d => exact h
    | enter f args => exact ⟨(fun e => by cases e), CallsIn.inRound lr (callsIn_wide.2 (by unfold Oper.upon at h; exact h))⟩
    | row r args => exact ⟨(fun e => by cases e), rowsIn_wide (by unfold Oper.upon at h; exact h)⟩
    | _ => exact h.elim
  | halt x w' => cases x <;> first | exact h | exact h.elim

theorem wpOpIn_of_wide (hd : ∀ (i : Nat) (o : Oper), ops[i]? = some o → deferB o = false) (hQ : ¬ LetsOut Q) (ha : ∀ (o : Oper) (f : FuncId) (a : Act) (w : World), o.about P w a.eval = some f → (Fence.wide.inRound lr).fn f := fun _ _ _ _ _ => trivial) {i : Nat} {a : Act} {w : World} {K K' : Act → World → Prop} (hK : ∀ a w, K a w → K' a w)
    (h : wpOp P ops Q i K a w) : wpOpIn (Fence.wide.inRound lr) n P ops Q i K' a w := by
  unfold wpOp at h
  unfold wpOpIn
  cases ho : ops[i]? with
  | none => simp only [ho] at h; exact hK _ _ h
  | some o =>
    simp only [ho] at h ⊢
    by_cases hw : Region.wanted o (yielded ops a.tmps) = true
    · simp only [hw, if_true] at h ⊢
      rcases h with h | h
      · exact Oper.wpIn_mono hK (opIn_of_wide (hd i o ho) h)
      · exact absurd h.2 hQ
    · simp only [hw] at h ⊢
      exact ⟨fun _ _ => trivial, hK _ _ h⟩

theorem wpAnyIn_of_wide (hd : ∀ (i : Nat) (o : Oper), ops[i]? = some o → deferB o = false) (hQ : ¬ LetsOut Q) : ∀ (g : Nat) (listed : Array Bool) (a : Act) (w : World), wpAny P md ops Q g listed a w → wpAnyIn (Fence.wide.inRound lr) n P md ops Q g listed a w
  | 0, _, _, _, h => h
  | g + 1, _, _, _, h => ⟨h.1, fun i hi => wpOpIn_of_wide hd hQ (fun _ _ _ _ _ => trivial) (fun a' w' h' => wpAnyIn_of_wide hd hQ g _ a' w' h') (h.2 i hi)⟩

theorem all_no_defer {l : List Oper} (h : l.all (fun o => !deferB o) = true) : ∀ (i : Nat) (o : Oper), l.toArray[i]? = some o → deferB o = false := fun i o ho => by
  have := List.all_eq_true.1 h o (by
    have : l[i]? = some o := by simpa using ho
    exact List.mem_of_getElem? this)
  simpa using this

theorem stepIn_of_wide (hQ : ¬ LetsOut Q) : ∀ (l : List Oper) (a : Act) (w : World), l.all (fun o => !deferB o) = true → wpList P ops Q l a w → wpListIn (Fence.wide.inRound lr) n P ops Q l a w
  | [], _, _, _, h => h
  | o :: l, a, w, hd, h => by
    simp only [List.all_cons, Bool.and_eq_true] at hd
    have hdo : deferB o = false := by simpa using hd.1
    unfold wpList at h
    unfold wpListIn
    by_cases hw : Region.wanted o (yielded ops a.tmps) = true
    · rw [if_pos hw] at h ⊢
      rcases h with h | h
      · exact Oper.wpIn_mono (fun a' w' h' => stepIn_of_wide hQ l a' w' hd.2 h') (opIn_of_wide hdo h)
      · exact absurd h.2 hQ
    · rw [if_neg hw] at h ⊢
      exact ⟨fun _ _ => trivial, stepIn_of_wide hQ l _ w hd.2 h⟩

/-- Reads 0 .. m - 1, then number m, which makes memory, then a forced tail. -/
theorem round_region_held_quiet {id : Nat} {l : List Oper} {a : Act} {w : World} (m : Nat) (S : World → Prop) (hm : P.follows .mixedOrders = true) (hd : l.all (fun o => !deferB o) = true) (hQ0 : ¬ LetsOut Q) (hB : heldTailB .any l.toArray m = true) (hr : (l.take m).all readB = true)
    (hQ : ∀ c a d v w, Q (.panic c) (Act.put a d v) w → Q (.panic c) a w) (hS : S w.drew)
    (h : wpQuiet P l.toArray S (fun a' => wpOp P l.toArray Q m (fun a2 w2 => S w2 ∧ wpList P l.toArray Q (l.drop (m + 1)) a2 w2) a' w.drew) (l.take m) a) :
    (Code.region id l.toArray true).wpIn (Fence.wide.inRound lr) n P Q a w :=
  wpIn_region_any hm (wpAnyIn_of_wide (all_no_defer hd) hQ0 _ _ _ _ (wpAny_held_tail m hB hS hQ (reads_of_quiet _ _ hr h)))

theorem wpAny_held_seq {l : List Oper} {a : Act} {w : World} (idx ms : List Nat) (h : Nat) (S : World → Prop) (hB : heldMB .any l.toArray idx ms h = true) (hr : (pick l idx).all readB = true)
    (hQ : ∀ c a d v w, Q (.panic c) (Act.put a d v) w → Q (.panic c) a w) (hS : S w.drew)
    (hh : wpQuiet P l.toArray S (fun a' => chainM P l.toArray Q S (fun a2 w2 => wpList P l.toArray Q (l.drop h) a2 w2) ms a' w.drew) (pick l idx) a) :
    wpAny P .any l.toArray Q l.toArray.size (Array.replicate l.toArray.size false) a w.drew := by
  simp only [heldMB, Bool.and_eq_true, decide_eq_true_eq] at hB
  obtain ⟨⟨⟨⟨⟨⟨hsel, hn⟩, hlen⟩, hs⟩, hc⟩, hsome⟩, hlex⟩ := hB
  have hdl : (l.drop h).length = l.toArray.size - h := by simp
  have inv0 : HeadInv .any l.toArray h (Array.replicate l.toArray.size false) :=
    ⟨by simp, fun j oj _ hl => (by rw [getD_replicate_false] at hl; cases hl), fun t _ ht => getD_in (by simpa using ht) (getD_replicate_false _ _)⟩
  have hp : (idx.filterMap fun i => l.toArray[i]?) = pick l idx := by simp [pick]
  have H := wpAnyHL_readsM (g := l.toArray.size - h) (K := fun a2 w2 => wpList P l.toArray Q (l.drop h) a2 w2) hS hsel hs hc hn hQ idx _ a hsome inv0 hlex (by rw [hp]; exact reads_of_quiet _ _ hr hh)
  have := wpAny_of_headH (g := l.toArray.size - h) (fun listed a' w' hL => by
    have := wpAny_of_seq (md := .any) (Q' := Q) (l.drop h) h listed a' w' (fun j => by simp [List.getElem?_drop]) (by rw [hdl]; exact hL.1) hL.2
    rwa [hdl] at this) _ _ _ _ H
  rw [hlen, show h + (l.toArray.size - h) = l.toArray.size by omega] at this
  exact this

/-- Reads in the order idx, then the forced ones ms (each may make memory), then the forced tail from h on. -/
theorem round_region_held_seq {id : Nat} {l : List Oper} {a : Act} {w : World} (idx ms : List Nat) (h : Nat) (S : World → Prop) (hm : P.follows .mixedOrders = true) (hd : l.all (fun o => !deferB o) = true) (hQ0 : ¬ LetsOut Q) (hB : heldMB .any l.toArray idx ms h = true) (hr : (pick l idx).all readB = true)
    (hQ : ∀ c a d v w, Q (.panic c) (Act.put a d v) w → Q (.panic c) a w) (hS : S w.drew)
    (hh : wpQuiet P l.toArray S (fun a' => chainM P l.toArray Q S (fun a2 w2 => wpList P l.toArray Q (l.drop h) a2 w2) ms a' w.drew) (pick l idx) a) :
    (Code.region id l.toArray true).wpIn (Fence.wide.inRound lr) n P Q a w :=
  wpIn_region_any hm (wpAnyIn_of_wide (all_no_defer hd) hQ0 _ _ _ _ (wpAny_held_seq idx ms h S hB hr hQ hS hh))
end
end Go.Proofs.YtgelingkifafeaaGreatDoor

/- A region that draws: reads, one operation that makes memory, then reads of what is in the frame, in whatever order. -/
namespace Go.Proofs.YtgelingkifafeaaGreatDoor
open Go Go.RowKit Go.Proofs

def readsTB (T : Array Bool → Bool) (md : Region.Mode) (ops : Array Oper) : Nat → Nat → Array Bool → Bool
  | 0, k, listed => decide (Region.ready md ops listed = [k]) && T (listed.setIfInBounds k true)
  | f + 1, k, listed => (Region.ready md ops listed).contains k && Region.free md ops listed k && readsTB T md ops f (k + 1) (listed.setIfInBounds k true)
def lexTail (md : Region.Mode) (ops : Array Oper) (m : Nat) (listed : Array Bool) : Bool :=
  (Region.ready md ops listed).all (fun j => decide (m ≤ j)) && Region.lexFrom md ops (ops.size - m) m listed
/-- Each of the tail waits for an earlier one of the tail. -/
def chainL (md : Region.Mode) (ops : Array Oper) (n : Nat) : Bool :=
  (List.range ops.size).all fun t => decide (t ≤ n) || (List.range ops.size).any fun j => decide (n ≤ j) && Region.waitsFor md ops t j
def heldLexB (md : Region.Mode) (ops : Array Oper) (m : Nat) : Bool :=
  Region.noSelect ops && decide (m + 1 < ops.size) && Region.sinkB md ops (m + 1) && chainL md ops (m + 1) && readsTB (lexTail md ops (m + 1)) md ops m 0 (Array.replicate ops.size false)

section
variable {P : Program} {ops : Array Oper} {Q : Exit → Act → World → Prop} {md : Region.Mode} {S : World → Prop} {lr n : Nat}
theorem tail_waitsL {n : Nat} {listed : Array Bool} (hs : Region.sinkB md ops n = true) (hc : chainL md ops n = true) (hn : n < ops.size) (inv : HeadInv md ops n listed) :
    ∀ (d i : Nat), n - i = d → i < n → listed.getD i true = false → ∀ t, n ≤ t → t ∉ Region.ready md ops listed := by
  intro d
  induction d using Nat.strongRecOn with
  | _ d ih =>
    intro i hd hi hun t ht hr
    obtain ⟨_, ot, hot, hall⟩ := mem_ready.1 hr
    have htlt : t < ops.size := (Array.getElem?_eq_some_iff.1 hot).1
    have hno : ∀ k, Region.waitsFor md ops t k = true → listed.getD k true = false → False := fun k hw hk => by
      obtain ⟨o', ho', e, he, hb, hon⟩ := Region.waitsFor_spec hw
      obtain rfl : o' = ot := Option.some.inj (ho'.symm.trans hot)
      have h2 := hall e he hb
      rw [hon, getD_both hk] at h2
      cases h2
    by_cases htn : t ≤ n
    · obtain rfl : t = n := by omega
      obtain ⟨j, hj, hj2⟩ := List.any_eq_true.1 (List.all_eq_true.1 hs i (List.mem_range.2 hi))
      simp only [Bool.and_eq_true, decide_eq_true_eq] at hj2
      by_cases hjt : j = t
      · exact hno i (hjt ▸ hj2.2) hun
      · have hjl : j < t := by have := List.mem_range.1 hj; omega
        have hju : listed.getD j true = false := by
          refine getD_in (by rw [inv.size]; omega) ?_
          cases hl : listed.getD j false with
          | false => rfl
          | true =>
            obtain ⟨oj, hoj, e, he, hb, hon⟩ := Region.waitsFor_spec hj2.2
            have h2 := inv.closed j oj hoj hl e he hb
            rw [hon, getD_both hun] at h2
            cases h2
        exact ih (t - j) (by omega) j rfl hjl hju t (Nat.le_refl _) hr
    · have h1 := List.all_eq_true.1 hc t (List.mem_range.2 htlt)
      simp only [Bool.or_eq_true, decide_eq_true_eq] at h1
      rcases h1 with h1 | h1
      · omega
      · obtain ⟨j, hj, hj2⟩ := List.any_eq_true.1 h1
        simp only [Bool.and_eq_true, decide_eq_true_eq] at hj2
        exact hno j hj2.2 (inv.tail j hj2.1 (List.mem_range.1 hj))

theorem wpAnyHL_firstL {i n : Nat} {oi : Oper} {v : Value} {L : Array Bool → Act → World → Prop} (hi : ops[i]? = some oi) (hsel : ∀ (j : Nat) (o : Oper) cs b, ops[j]? = some o → o.op ≠ .select cs b)
    (hs : Region.sinkB md ops n = true) (hc : chainL md ops n = true) (hn : n < ops.size) (hin : i < n)
    (hQ : ∀ c a w, Q (.panic c) (a.put oi.dst v) w → Q (.panic c) a w)
    (hdone : ∀ listed a w, L listed a w → ∀ j ∈ Region.ready md ops listed, n ≤ j) :
    ∀ (f : Nat) (listed : Array Bool) (a : Act) (w : World), HeadInv md ops n listed →
      (∀ (j : Nat) (oj : Oper), ops[j]? = some oj → j ≠ i → listed.getD j true = false → (∀ e ∈ oj.after, Region.binds md e = true → e.on ≠ i) → oi.apart ops oj = true) →
      i ∈ Region.ready md ops listed → YieldsIf P ops S oi v a → S w →
      wpAnyHL P md ops Q S n L f (listed.setIfInBounds i true) (a.put oi.dst v) w → wpAnyHL P md ops Q S n L (f + 1) listed a w := by
  intro f
  induction f with
  | zero =>
    intro listed a w inv _ hr hy hS H
    have hun := (mem_ready.1 hr).1
    refine ⟨fun h => (by rw [h] at hr; cases hr), fun j hj => ?_⟩
    have hjn : j < n := by
      rcases Nat.lt_or_ge j n with h | h
      · exact h
      · exact absurd hj (tail_waitsL hs hc hn inv _ i rfl hin hun j h)
    refine ⟨hjn, ?_⟩
    by_cases hji : j = i
    · subst hji; exact hy.wpOp hi hS ⟨hS, H⟩
    · have := hdone _ _ _ H j (ready_mono hj hji)
      omega
  | succ f ih =>
    intro listed a w inv hfree hr hy hS H
    have hun := (mem_ready.1 hr).1
    refine ⟨fun h => (by rw [h] at hr; cases hr), fun j hj => ?_⟩
    have hjn : j < n := by
      rcases Nat.lt_or_ge j n with h | h
      · exact h
      · exact absurd hj (tail_waitsL hs hc hn inv _ i rfl hin hun j h)
    refine ⟨hjn, ?_⟩
    by_cases hji : j = i
    · subst hji; exact hy.wpOp hi hS ⟨hS, H⟩
    · have h1 := (H.2 j (ready_mono hj hji)).2
      obtain ⟨hjun, oj, hoj, hall⟩ := mem_ready.1 hj
      have hnot : ∀ e ∈ oj.after, Region.binds md e = true → e.on ≠ i := fun e he hb heq => by
        have h1 := hall e he hb
        rw [heq, getD_both hun] at h1
        cases h1
      have h2 := wpOp_putIf hoj (hfree j oj hoj hji hjun hnot) (fun cs b => hsel i oi cs b hi) (fun cs b => hsel j oj cs b hoj) hQ hy h1
      have hfree' : ∀ (k : Nat) (ok : Oper), ops[k]? = some ok → k ≠ i → (listed.setIfInBounds j true).getD k true = false →
          (∀ e ∈ ok.after, Region.binds md e = true → e.on ≠ i) → oi.apart ops ok = true := fun k ok hk hki hun hno => by
        refine hfree k ok hk hki ?_ hno
        by_cases hjk : j = k
        · subst hjk; exact hjun
        · rw [getD_set_ne true hjk] at hun; exact hun
      refine wpOp_mono (fun a' w' h3 => ⟨h3.2.1, ih (listed.setIfInBounds j true) a' w' (inv.set hj hjn) hfree' (ready_mono hr (Ne.symm hji)) h3.1 h3.2.1 ?_⟩) h2
      rw [Array.setIfInBounds_comm _ _ hji]
      exact h3.2.2

theorem wpAnyHL_readsT {m : Nat} {T : Array Bool → Bool} (hT : ∀ listed, T listed = true → ∀ j ∈ Region.ready md ops listed, m + 1 ≤ j) {K : Act → World → Prop} {w : World} (hS : S w) (hsel : Region.noSelect ops = true) (hs : Region.sinkB md ops (m + 1) = true) (hc : chainL md ops (m + 1) = true) (hn : m + 1 < ops.size)
    (hQ : ∀ c a d v w, Q (.panic c) (Act.put a d v) w → Q (.panic c) a w) :
    ∀ (l : List Oper) (k : Nat) (listed : Array Bool) (a : Act), (∀ j, j < l.length → l[j]? = ops[k + j]?) → k + l.length = m → HeadInv md ops (m + 1) listed →
    readsTB T md ops l.length k listed = true → wpReads P ops S (fun a' => wpOp P ops Q m (fun a2 w2 => S w2 ∧ K a2 w2) a' w) l a →
    wpAnyHL P md ops Q S (m + 1) (fun listed' a' w' => T listed' = true ∧ K a' w') (l.length + 1) listed a w
  | [], k, listed, a, hl, hk, inv, hB, h => by
    have : k = m := by simpa using hk
    subst this
    simp only [List.length_nil, readsTB, Bool.and_eq_true, decide_eq_true_eq] at hB
    have h' : wpOp P ops Q k (fun a2 w2 => S w2 ∧ K a2 w2) a w := h
    refine ⟨by rw [hB.1]; simp, fun i hi => ?_⟩
    rw [hB.1] at hi
    have hik : i = k := by simpa using hi
    rw [hik]
    exact ⟨by omega, wpOp_mono (fun a' w' h2 => ⟨h2.1, hB.2, h2.2⟩) h'⟩
  | o :: l, k, listed, a, hl, hk, inv, hB, h => by
    have h0 : ops[k]? = some o := by simpa using (hl 0 (by simp)).symm
    simp only [List.length_cons, readsTB, Bool.and_eq_true] at hB
    obtain ⟨⟨hr, hf⟩, hB'⟩ := hB
    have hkn : k < m + 1 := by simp only [List.length_cons] at hk; omega
    have hr' : k ∈ Region.ready md ops listed := by simpa using hr
    obtain ⟨v, hy, hK⟩ := h
    exact wpAnyHL_firstL h0 (Region.noSelect_spec hsel) hs hc hn hkn (fun c a w => hQ c a _ _ w) (fun listed' a' w' hL => hT _ hL.1) (l.length + 1) listed a w inv (Region.free_spec h0 hf) hr' hy hS
      (wpAnyHL_readsT hT hS hsel hs hc hn hQ l (k + 1) _ _ (fun j hj => by have := hl (j + 1) (by simp; omega); simpa [Nat.add_assoc, Nat.add_comm 1 j] using this) (by simp only [List.length_cons] at hk; omega) (inv.set hr' hkn) hB' hK)

/-- What stands behind the one that makes memory. -/
def tailK (P : Program) (Q : Exit → Act → World → Prop) (ops : Array Oper) (l : List Oper) (a : Act) (w : World) : Prop := wpQuiet P ops (fun V => ∃ _ : Unit, V = w) (fun a' => Q .normal a' w) l a

theorem wpAny_held_lex {l : List Oper} {a : Act} {w : World} (m : Nat) (hB : heldLexB md l.toArray m = true) (hS : S w) (hQ : ∀ c a d v w, Q (.panic c) (Act.put a d v) w → Q (.panic c) a w)
    (h : wpReads P l.toArray S (fun a' => wpOp P l.toArray Q m (fun a2 w2 => S w2 ∧ tailK P Q l.toArray (l.drop (m + 1)) a2 w2) a' w) (l.take m) a) :
    wpAny P md l.toArray Q l.toArray.size (Array.replicate l.toArray.size false) a w := by
  simp only [heldLexB, Bool.and_eq_true, decide_eq_true_eq] at hB
  obtain ⟨⟨⟨⟨hsel, hn⟩, hs⟩, hc⟩, hlex⟩ := hB
  have hn' : m + 1 < l.length := by simpa using hn
  have htl : (l.take m).length = m := by simp; omega
  have hdl : (l.drop (m + 1)).length = l.toArray.size - (m + 1) := by simp
  have inv0 : HeadInv md l.toArray (m + 1) (Array.replicate l.toArray.size false) :=
    ⟨by simp, fun j oj _ hl => (by rw [getD_replicate_false] at hl; cases hl), fun t _ ht => getD_in (by simpa using ht) (getD_replicate_false _ _)⟩
  have hT : ∀ listed, lexTail md l.toArray (m + 1) listed = true → ∀ j ∈ Region.ready md l.toArray listed, m + 1 ≤ j := fun listed hL j hj => by
    simp only [lexTail, Bool.and_eq_true, List.all_eq_true, decide_eq_true_eq] at hL
    exact hL.1 j hj
  have H := wpAnyHL_readsT hT (K := fun a2 w2 => tailK P Q l.toArray (l.drop (m + 1)) a2 w2) hS hsel hs hc hn hQ (l.take m) 0 _ a (fun j hj => by
    have hj' : j < m := by rw [htl] at hj; exact hj
    simp [hj']) (by simpa using htl) inv0 (by rw [htl]; exact hlex) h
  have := wpAny_of_headH (g := l.toArray.size - (m + 1)) (fun listed a' w' hL => by
    have hL1 := hL.1
    simp only [lexTail, Bool.and_eq_true] at hL1
    refine wpAny_of_quiet (C := fun V => ∃ _ : Unit, V = w') (Q := fun a2 => Q .normal a2 w') (fun a2 w2 hw2 hq => by obtain ⟨_, rfl⟩ := hw2; exact hq) _ _ _ _ ⟨(), rfl⟩ ?_
    have := wpAnyQ_lex (md := md) hsel (l.drop (m + 1)) (m + 1) listed a' (fun j => by simp [List.getElem?_drop]) (by rw [hdl]; exact hL1.2) hL.2
    rwa [hdl] at this) _ _ _ _ H
  rw [htl, show m + 1 + (l.toArray.size - (m + 1)) = l.toArray.size by omega] at this
  exact this

/-- In a round: reads 0 .. m - 1, number m, which makes memory, then reads of the frame. -/
theorem round_region_held_lex {id : Nat} {l : List Oper} {a : Act} {w : World} (m : Nat) (S : World → Prop) (hm : P.follows .mixedOrders = true) (hd : l.all (fun o => !deferB o) = true) (hQ0 : ¬ LetsOut Q) (hB : heldLexB .any l.toArray m = true) (hr : (l.take m).all readB = true)
    (hQ : ∀ c a d v w, Q (.panic c) (Act.put a d v) w → Q (.panic c) a w) (hS : S w.drew)
    (h : wpQuiet P l.toArray S (fun a' => wpOp P l.toArray Q m (fun a2 w2 => S w2 ∧ tailK P Q l.toArray (l.drop (m + 1)) a2 w2) a' w.drew) (l.take m) a) :
    (Code.region id l.toArray true).wpIn (Fence.wide.inRound lr) n P Q a w :=
  wpIn_region_any hm (wpAnyIn_of_wide (all_no_defer hd) hQ0 _ _ _ _ (wpAny_held_lex m hB hS hQ (reads_of_quiet _ _ hr h)))
theorem wp_region_held_lex {id : Nat} {l : List Oper} {a : Act} {w : World} (m : Nat) (S : World → Prop) (hm : P.follows .mixedOrders = true) (hB : heldLexB .any l.toArray m = true) (hr : (l.take m).all readB = true)
    (hQ : ∀ c a d v w, Q (.panic c) (Act.put a d v) w → Q (.panic c) a w) (hS : S w.drew)
    (h : wpQuiet P l.toArray S (fun a' => wpOp P l.toArray Q m (fun a2 w2 => S w2 ∧ tailK P Q l.toArray (l.drop (m + 1)) a2 w2) a' w.drew) (l.take m) a) :
    (Code.region id l.toArray true).wp P Q a w :=
  wp_region_any hm (wpAny_held_lex m hB hS hQ (reads_of_quiet _ _ hr h))
end
end Go.Proofs.YtgelingkifafeaaGreatDoor
