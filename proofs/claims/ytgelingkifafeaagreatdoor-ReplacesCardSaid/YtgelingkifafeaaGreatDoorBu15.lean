import Derived.Test.YtgelingkifafeaaGreatDoorBu14
import Derived.Test.YtgelingkifafeaaGreatDoorBu04
/- A region that draws, by a script: reads in an order that is named, then forced operations, each of which leaves what the reads need; again reads, again forced ones; then the forced tail. -/
namespace Go.Proofs.YtgelingkifafeaaGreatDoor
open Go Go.RowKit Go.Proofs

def chainS (md : Region.Mode) (ops : Array Oper) (h : Nat) (T : Array Bool → Bool) : List Nat → Array Bool → Bool
  | [], listed => T listed
  | m :: ms, listed => decide (Region.ready md ops listed = [m]) && decide (m < h) && chainS md ops h T ms (listed.setIfInBounds m true)
def readsS (md : Region.Mode) (ops : Array Oper) (h : Nat) (T : Array Bool → Bool) : List Nat → Array Bool → Bool
  | [], listed => T listed
  | i :: is, listed => (Region.ready md ops listed).contains i && Region.free md ops listed i && decide (i < h) && readsS md ops h T is (listed.setIfInBounds i true)
def scriptB (md : Region.Mode) (ops : Array Oper) (g h : Nat) : List (List Nat × List Nat) → Array Bool → Bool
  | [] => Region.seqB md ops g h
  | (idx, ms) :: rest => readsS md ops h (chainS md ops h (scriptB md ops g h rest) ms) idx
def scriptN : List (List Nat × List Nat) → Nat
  | [] => 0
  | (idx, ms) :: rest => idx.length + (ms.length + scriptN rest)
def heldSB (md : Region.Mode) (ops : Array Oper) (s : List (List Nat × List Nat)) (h : Nat) : Bool :=
  Region.noSelect ops && decide (h < ops.size) && decide (scriptN s = h) && Region.sinkB md ops h && Region.chainB md ops h && s.all (fun p => p.1.all fun i => (ops[i]?).isSome) && scriptB md ops (ops.size - h) h s (Array.replicate ops.size false)

section
variable {P : Program} {ops : Array Oper} {Q : Exit → Act → World → Prop} {md : Region.Mode} {S : World → Prop}
def scriptW (P : Program) (l : List Oper) (Q : Exit → Act → World → Prop) (S : World → Prop) (K : Act → World → Prop) : List (List Nat × List Nat) → Act → World → Prop
  | [], a, w => K a w
  | (idx, ms) :: rest, a, w => wpQuiet P l.toArray S (fun a' => chainM P l.toArray Q S (scriptW P l Q S K rest) ms a' w) (pick l idx) a


theorem wpAnyHL_chainS {g h f : Nat} {K K' : Act → World → Prop} {T : Array Bool → Bool} (hT : ∀ listed a w, HeadInv md ops h listed → S w → T listed = true → K' a w → wpAnyHL P md ops Q S h (fun listed' a' w' => Region.seqB md ops g h listed' = true ∧ K a' w') f listed a w) :
    ∀ (ms : List Nat) (listed : Array Bool) (a : Act) (w : World), HeadInv md ops h listed → S w → chainS md ops h T ms listed = true → chainM P ops Q S K' ms a w →
    wpAnyHL P md ops Q S h (fun listed' a' w' => Region.seqB md ops g h listed' = true ∧ K a' w') (ms.length + f) listed a w
  | [], listed, a, w, inv, hS, hB, hK => by rw [List.length_nil, Nat.zero_add]; exact hT _ _ _ inv hS hB hK
  | m :: ms, listed, a, w, inv, hS, hB, hK => by
    simp only [chainS, Bool.and_eq_true, decide_eq_true_eq] at hB
    rw [List.length_cons, show ms.length + 1 + f = (ms.length + f) + 1 by omega]
    refine ⟨by rw [hB.1.1]; simp, fun i hi => ?_⟩
    have hi' := hi
    rw [hB.1.1] at hi
    have him : i = m := by simpa using hi
    subst him
    exact ⟨hB.1.2, wpOp_mono (fun a' w' h2 => ⟨h2.1, wpAnyHL_chainS hT ms _ a' w' (inv.set hi' hB.1.2) h2.1 hB.2 h2.2⟩) hK⟩

theorem wpAnyHL_readsS {g h f : Nat} {K : Act → World → Prop} {T : Array Bool → Bool} {w : World} (hS : S w) (hsel : Region.noSelect ops = true) (hs : Region.sinkB md ops h = true) (hc : Region.chainB md ops h = true) (hn : h < ops.size)
    (hQ : ∀ c a d v w, Q (.panic c) (Act.put a d v) w → Q (.panic c) a w) {Ka : Act → Prop}
    (hT : ∀ listed a, HeadInv md ops h listed → T listed = true → Ka a → wpAnyHL P md ops Q S h (fun listed' a' w' => Region.seqB md ops g h listed' = true ∧ K a' w') f listed a w) :
    ∀ (is : List Nat) (listed : Array Bool) (a : Act), is.all (fun i => (ops[i]?).isSome) = true → HeadInv md ops h listed →
    readsS md ops h T is listed = true → wpReads P ops S Ka (is.filterMap fun i => ops[i]?) a →
    wpAnyHL P md ops Q S h (fun listed' a' w' => Region.seqB md ops g h listed' = true ∧ K a' w') (is.length + f) listed a w
  | [], listed, a, _, inv, hB, hh => by rw [List.length_nil, Nat.zero_add]; exact hT _ _ inv hB hh
  | i :: is, listed, a, hsome, inv, hB, hh => by
    simp only [List.all_cons, Bool.and_eq_true] at hsome
    obtain ⟨o, ho⟩ := Option.isSome_iff_exists.1 hsome.1
    simp only [readsS, Bool.and_eq_true, decide_eq_true_eq] at hB
    obtain ⟨⟨⟨hr, hf⟩, hih⟩, hB'⟩ := hB
    have hr' : i ∈ Region.ready md ops listed := by simpa using hr
    rw [List.filterMap_cons, ho] at hh
    obtain ⟨v, hy, hK⟩ := hh
    rw [List.length_cons, show is.length + 1 + f = (is.length + f) + 1 by omega]
    exact wpAnyHL_first ho (Region.noSelect_spec hsel) hs hc hn hih (fun c a w => hQ c a _ _ w) (fun listed' a' w' hL => seqB_ready hL.1) (is.length + f) listed a w inv (Region.free_spec ho hf) hr' hy hS
      (wpAnyHL_readsS hS hsel hs hc hn hQ hT is _ _ hsome.2 (inv.set hr' hih) hB' hK)

theorem wpAnyHL_script {l : List Oper} {g h : Nat} {K : Act → World → Prop} (hsel : Region.noSelect l.toArray = true) (hs : Region.sinkB md l.toArray h = true) (hc : Region.chainB md l.toArray h = true) (hn : h < l.toArray.size)
    (hQ : ∀ c a d v w, Q (.panic c) (Act.put a d v) w → Q (.panic c) a w) :
    ∀ (s : List (List Nat × List Nat)) (listed : Array Bool) (a : Act) (w : World), HeadInv md l.toArray h listed → S w → s.all (fun p => p.1.all fun i => (l.toArray[i]?).isSome) = true → s.all (fun p => (pick l p.1).all readB) = true →
    scriptB md l.toArray g h s listed = true → scriptW P l Q S K s a w →
    wpAnyHL P md l.toArray Q S h (fun listed' a' w' => Region.seqB md l.toArray g h listed' = true ∧ K a' w') (scriptN s) listed a w
  | [], listed, a, w, inv, hS, _, _, hB, hW => ⟨hB, hW⟩
  | (idx, ms) :: rest, listed, a, w, inv, hS, hsome, hrd, hB, hW => by
    simp only [List.all_cons, Bool.and_eq_true] at hsome hrd
    have hp : (idx.filterMap fun i => l.toArray[i]?) = pick l idx := by simp [pick]
    exact wpAnyHL_readsS hS hsel hs hc hn hQ (Ka := fun a' => chainM P l.toArray Q S (scriptW P l Q S K rest) ms a' w)
      (fun listed' a' inv' hT' hK' => wpAnyHL_chainS (fun listed2 a2 w2 inv2 hS2 hT2 hK2 => wpAnyHL_script hsel hs hc hn hQ rest listed2 a2 w2 inv2 hS2 hsome.2 hrd.2 hT2 hK2) ms listed' a' w inv' hS hT' hK')
      idx listed a hsome.1 inv hB (by rw [hp]; exact reads_of_quiet _ _ hrd.1 hW)

theorem wpAny_held_script {l : List Oper} {a : Act} {w : World} (s : List (List Nat × List Nat)) (h : Nat) (hB : heldSB md l.toArray s h = true) (hr : s.all (fun p => (pick l p.1).all readB) = true)
    (hQ : ∀ c a d v w, Q (.panic c) (Act.put a d v) w → Q (.panic c) a w) (hS : S w)
    (hh : scriptW P l Q S (fun a2 w2 => wpList P l.toArray Q (l.drop h) a2 w2) s a w) :
    wpAny P md l.toArray Q l.toArray.size (Array.replicate l.toArray.size false) a w := by
  simp only [heldSB, Bool.and_eq_true, decide_eq_true_eq] at hB
  obtain ⟨⟨⟨⟨⟨⟨hsel, hn⟩, hlen⟩, hs⟩, hc⟩, hsome⟩, hlex⟩ := hB
  have hdl : (l.drop h).length = l.toArray.size - h := by simp
  have inv0 : HeadInv md l.toArray h (Array.replicate l.toArray.size false) :=
    ⟨by simp, fun j oj _ hl => (by rw [getD_replicate_false] at hl; cases hl), fun t _ ht => getD_in (by simpa using ht) (getD_replicate_false _ _)⟩
  have H := wpAnyHL_script (g := l.toArray.size - h) (K := fun a2 w2 => wpList P l.toArray Q (l.drop h) a2 w2) hsel hs hc hn hQ s _ a w inv0 hS hsome hr hlex hh
  have := wpAny_of_headH (g := l.toArray.size - h) (fun listed a' w' hL => by
    have := wpAny_of_seq (md := md) (Q' := Q) (l.drop h) h listed a' w' (fun j => by simp [List.getElem?_drop]) (by rw [hdl]; exact hL.1) hL.2
    rwa [hdl] at this) _ _ _ _ H
  rw [hlen, show h + (l.toArray.size - h) = l.toArray.size by omega] at this
  exact this

theorem wp_region_held_script {id : Nat} {l : List Oper} {a : Act} {w : World} (s : List (List Nat × List Nat)) (h : Nat) (S : World → Prop) (hm : P.follows .mixedOrders = true) (hB : heldSB .any l.toArray s h = true) (hr : s.all (fun p => (pick l p.1).all readB) = true)
    (hQ : ∀ c a d v w, Q (.panic c) (Act.put a d v) w → Q (.panic c) a w) (hS : S w.drew)
    (hh : scriptW P l Q S (fun a2 w2 => wpList P l.toArray Q (l.drop h) a2 w2) s a w.drew) :
    (Code.region id l.toArray true).wp P Q a w :=
  wp_region_any hm (wpAny_held_script s h hB hr hQ hS hh)

/-- Reads; then one of two operations comes first, each with its own script behind it. -/
def forkT (md : Region.Mode) (ops : Array Oper) (h m1 m2 : Nat) (s1 s2 : List (List Nat × List Nat)) (listed : Array Bool) : Bool :=
  decide (Region.ready md ops listed = [m1, m2]) && decide (m1 < h) && decide (m2 < h) && scriptB md ops (ops.size - h) h s1 (listed.setIfInBounds m1 true) && scriptB md ops (ops.size - h) h s2 (listed.setIfInBounds m2 true)
def heldFB (md : Region.Mode) (ops : Array Oper) (idx : List Nat) (m1 m2 : Nat) (s1 s2 : List (List Nat × List Nat)) (h : Nat) : Bool :=
  Region.noSelect ops && decide (h < ops.size) && decide (idx.length + (scriptN s1 + 1) = h) && decide (scriptN s2 = scriptN s1) && Region.sinkB md ops h && Region.chainB md ops h && (idx.all fun i => (ops[i]?).isSome) && s1.all (fun p => p.1.all fun i => (ops[i]?).isSome) && s2.all (fun p => p.1.all fun i => (ops[i]?).isSome) &&
    readsS md ops h (forkT md ops h m1 m2 s1 s2) idx (Array.replicate ops.size false)

theorem wp_region_held_fork {id : Nat} {l : List Oper} {a : Act} {w : World} (idx : List Nat) (m1 m2 : Nat) (s1 s2 : List (List Nat × List Nat)) (h : Nat) (S : World → Prop) (hm : P.follows .mixedOrders = true) (hB : heldFB .any l.toArray idx m1 m2 s1 s2 h = true)
    (hr : ((pick l idx).all readB && s1.all (fun p => (pick l p.1).all readB) && s2.all (fun p => (pick l p.1).all readB)) = true)
    (hQ : ∀ c a d v w, Q (.panic c) (Act.put a d v) w → Q (.panic c) a w) (hS : S w.drew)
    (hh : wpQuiet P l.toArray S (fun a' => wpOp P l.toArray Q m1 (fun a2 w2 => S w2 ∧ scriptW P l Q S (fun a2 w2 => wpList P l.toArray Q (l.drop h) a2 w2) s1 a2 w2) a' w.drew ∧
      wpOp P l.toArray Q m2 (fun a2 w2 => S w2 ∧ scriptW P l Q S (fun a2 w2 => wpList P l.toArray Q (l.drop h) a2 w2) s2 a2 w2) a' w.drew) (pick l idx) a) :
    (Code.region id l.toArray true).wp P Q a w := by
  refine wp_region_any hm ?_
  simp only [heldFB, Bool.and_eq_true, decide_eq_true_eq] at hB hr
  obtain ⟨⟨⟨⟨⟨⟨⟨⟨⟨hsel, hn⟩, hlen⟩, hl12⟩, hs⟩, hc⟩, hsome⟩, hso1⟩, hso2⟩, hlex⟩ := hB
  have hdl : (l.drop h).length = l.toArray.size - h := by simp
  have inv0 : HeadInv .any l.toArray h (Array.replicate l.toArray.size false) :=
    ⟨by simp, fun j oj _ hl => (by rw [getD_replicate_false] at hl; cases hl), fun t _ ht => getD_in (by simpa using ht) (getD_replicate_false _ _)⟩
  have hp : (idx.filterMap fun i => l.toArray[i]?) = pick l idx := by simp [pick]
  have H := wpAnyHL_readsS (md := .any) (g := l.toArray.size - h) (f := scriptN s1 + 1) (K := fun a2 w2 => wpList P l.toArray Q (l.drop h) a2 w2) (T := forkT .any l.toArray h m1 m2 s1 s2) hS hsel hs hc hn hQ
    (Ka := fun a' => wpOp P l.toArray Q m1 (fun a2 w2 => S w2 ∧ scriptW P l Q S (fun a2 w2 => wpList P l.toArray Q (l.drop h) a2 w2) s1 a2 w2) a' w.drew ∧
      wpOp P l.toArray Q m2 (fun a2 w2 => S w2 ∧ scriptW P l Q S (fun a2 w2 => wpList P l.toArray Q (l.drop h) a2 w2) s2 a2 w2) a' w.drew)
    (fun listed' a' inv' hT' hK' => by
      simp only [forkT, Bool.and_eq_true, decide_eq_true_eq] at hT'
      obtain ⟨⟨⟨⟨hrd, hm1⟩, hm2⟩, hb1⟩, hb2⟩ := hT'
      refine ⟨by rw [hrd]; simp, fun i hi => ?_⟩
      have hi' := hi
      rw [hrd] at hi
      rcases List.mem_cons.1 hi with rfl | hi2
      · exact ⟨hm1, wpOp_mono (fun a2 w2 h2 => ⟨h2.1, wpAnyHL_script hsel hs hc hn hQ s1 _ a2 w2 (inv'.set hi' hm1) h2.1 hso1 hr.1.2 hb1 h2.2⟩) hK'.1⟩
      · obtain rfl : i = m2 := by simpa using hi2
        exact ⟨hm2, wpOp_mono (fun a2 w2 h2 => ⟨h2.1, hl12 ▸ wpAnyHL_script hsel hs hc hn hQ s2 _ a2 w2 (inv'.set hi' hm2) h2.1 hso2 hr.2 hb2 h2.2⟩) hK'.2⟩)
    idx _ a hsome inv0 hlex (by rw [hp]; exact reads_of_quiet _ _ hr.1.1 hh)
  have := wpAny_of_headH (g := l.toArray.size - h) (fun listed a' w' hL => by
    have := wpAny_of_seq (md := .any) (Q' := Q) (l.drop h) h listed a' w' (fun j => by simp [List.getElem?_drop]) (by rw [hdl]; exact hL.1) hL.2
    rwa [hdl] at this) _ _ _ _ H
  rw [hlen, show h + (l.toArray.size - h) = l.toArray.size by omega] at this
  exact this

/-- One operation of a script, guarded or not, by a law on sequences. -/
theorem wpOp_listG {i : Nat} {o : Oper} {K : Act → World → Prop} {a : Act} {w : World} (ho : ops[i]? = some o) (hw : Region.wanted o (yielded ops a.tmps) = true) (h : wpList P ops (Exit.then K Q) [o] a w) : wpOp P ops Q i K a w := by
  unfold wpList at h
  rw [if_pos hw] at h
  unfold wpOp
  simp only [ho, hw, if_true]
  rcases h with h | h
  · exact .inl h
  · exact .inr h
end

/-- All worlds in which all but the blocks of G lies as in W, under one name. -/
theorem upd_worlds (G : Nat → Prop) (W : World) : ∃ (ι : Type) (_ : Nonempty ι) (f : ι → World), (∀ n, Upd G W (f n)) ∧ Hid (∀ V, Upd G W V → ∃ n, V = f n) :=
  ⟨{V : World // Upd G W V}, ⟨⟨W, Upd.refl _ _⟩⟩, fun n => n.1, fun n => n.2, Lib.hid fun V hV => ⟨⟨V, hV⟩, rfl⟩⟩
end Go.Proofs.YtgelingkifafeaaGreatDoor

/- A region that draws: reads, and operations that turn the world, in whatever order the edges allow, by a class of worlds that knows which of them were done. -/
namespace Go.Proofs.YtgelingkifafeaaGreatDoor
open Go Go.RowKit Go.Proofs

/-- The frame, where the operations of L are done. -/
structure Fr (ops : Array Oper) (vals : Nat → Value) (L : Nat → Bool) (a0 a : Act) : Prop where
  defers : a.defers = a0.defers
  size : a.tmps.size = a0.tmps.size
  hit : ∀ i o t, ops[i]? = some o → o.dst = some t → L i = true → t < a0.tmps.size → a.tmps[t]? = some (vals i)
  miss : ∀ t, (∀ i o, ops[i]? = some o → L i = true → o.dst ≠ some t) → a.tmps[t]? = a0.tmps[t]?

def setL (i : Nat) (L : Nat → Bool) : Nat → Bool := fun j => j == i || L j
def distB (ops : Array Oper) : Bool :=
  (List.range ops.size).all fun i => (List.range ops.size).all fun j => decide (i = j) || (match ops[i]?, ops[j]? with | some o, some o' => (match o.dst with | none => true | some d => o'.dst != some d) | _, _ => true)
def lookB (ops : Array Oper) : Bool :=
  (List.range ops.size).all fun i => match ops[i]? with
    | none => true
    | some o => (o.looksAt ops).all (fun t => (List.range ops.size).all fun j => match ops[j]? with
        | none => true
        | some o' => o'.dst != some t || (decide (j < i) && o.after.any fun e => Region.binds .any e && e.on == j) || (decide (i < j) && o'.after.any fun e => Region.binds .any e && e.on == i)) && o.after.all (fun e => !Region.binds .any e || decide (e.on < i))
def invB (ops : Array Oper) : Bool := Region.noSelect ops && distB ops && lookB ops

section
variable {P : Program} {ops : Array Oper} {vals : Nat → Value} {S : (Nat → Bool) → World → Prop}

theorem dist_spec (h : distB ops = true) {i j : Nat} {o o' : Oper} (hi : ops[i]? = some o) (hj : ops[j]? = some o') (hne : i ≠ j) {d : Tmp} (hd : o.dst = some d) : o'.dst ≠ some d := by
  have hil : i < ops.size := (Array.getElem?_eq_some_iff.1 hi).1
  have hjl : j < ops.size := (Array.getElem?_eq_some_iff.1 hj).1
  have h1 := List.all_eq_true.1 (List.all_eq_true.1 h i (List.mem_range.2 hil)) j (List.mem_range.2 hjl)
  simpa [hne, hi, hj, hd] using h1

theorem look_spec (h : lookB ops = true) {i : Nat} {o : Oper} (hi : ops[i]? = some o) :
    (∀ t ∈ o.looksAt ops, ∀ j o', ops[j]? = some o' → o'.dst = some t → (j < i ∧ ∃ e ∈ o.after, Region.binds .any e = true ∧ e.on = j) ∨ (i < j ∧ ∃ e ∈ o'.after, Region.binds .any e = true ∧ e.on = i)) ∧ (∀ e ∈ o.after, Region.binds .any e = true → e.on < i) := by
  have hil : i < ops.size := (Array.getElem?_eq_some_iff.1 hi).1
  have h1 := List.all_eq_true.1 h i (List.mem_range.2 hil)
  simp only [hi, Bool.and_eq_true] at h1
  refine ⟨fun t ht j o' hj hd => ?_, fun e he hb => ?_⟩
  · have hjl : j < ops.size := (Array.getElem?_eq_some_iff.1 hj).1
    have h2 := List.all_eq_true.1 (List.all_eq_true.1 h1.1 t ht) j (List.mem_range.2 hjl)
    simp only [hj, hd, bne_self_eq_false, Bool.false_or, Bool.or_eq_true, Bool.and_eq_true, decide_eq_true_eq] at h2
    rcases h2 with h2 | h2
    · obtain ⟨e, he, h3⟩ := Array.any_eq_true'.1 h2.2
      simp only [Bool.and_eq_true, beq_iff_eq] at h3
      exact .inl ⟨h2.1, e, he, h3⟩
    · obtain ⟨e, he, h3⟩ := Array.any_eq_true'.1 h2.2
      simp only [Bool.and_eq_true, beq_iff_eq] at h3
      exact .inr ⟨h2.1, e, he, h3⟩
  · have h2 := Array.all_eq_true'.1 h1.2 e he
    simpa [hb] using h2

theorem Fr.refl (a : Act) : Fr ops vals (fun _ => false) a a := ⟨rfl, rfl, fun _ _ _ _ _ h _ => (nomatch h), fun _ _ => rfl⟩

theorem Fr.congr {L L' : Nat → Bool} {a0 a : Act} (h : Fr ops vals L a0 a) (e : ∀ i, i < ops.size → L i = L' i) : Fr ops vals L' a0 a :=
  ⟨h.defers, h.size, fun i o t hi hd hl ht => h.hit i o t hi hd (by rw [e i (Array.getElem?_eq_some_iff.1 hi).1]; exact hl) ht,
    fun t ht => h.miss t fun i o hi hl => ht i o hi (by rw [← e i (Array.getElem?_eq_some_iff.1 hi).1]; exact hl)⟩

theorem Fr.put {L : Nat → Bool} {a0 a : Act} (hd : distB ops = true) (h : Fr ops vals L a0 a) {i : Nat} {o : Oper} (hi : ops[i]? = some o) : Fr ops vals (setL i L) a0 (a.put o.dst (vals i)) := by
  cases hdst : o.dst with
  | none =>
    refine ⟨h.defers, h.size, fun j oj t hj hdj hl ht => ?_, fun t ht => h.miss t fun j oj hj hl => ht j oj hj (by simp [setL, hl])⟩
    by_cases hji : j = i
    · subst hji; rw [hi] at hj; cases hj; rw [hdst] at hdj; cases hdj
    · exact h.hit j oj t hj hdj (by simpa [setL, hji] using hl) ht
  | some d =>
    refine ⟨h.defers, by simp [Act.put, h.size], fun j oj t hj hdj hl ht => ?_, fun t ht => ?_⟩
    · simp only [Act.put, Array.getElem?_setIfInBounds]
      by_cases hji : j = i
      · subst hji; rw [hi] at hj; cases hj; rw [hdst] at hdj; cases hdj
        rw [if_pos rfl, if_pos (by rw [h.size]; exact ht)]
      · have hne : d ≠ t := fun e => dist_spec hd hi hj (Ne.symm hji) hdst (e ▸ hdj)
        rw [if_neg hne]
        exact h.hit j oj t hj hdj (by simpa [setL, hji] using hl) ht
    · have hne : d ≠ t := fun e => ht i o hi (by simp [setL]) (e ▸ hdst)
      simp only [Act.put, Array.getElem?_setIfInBounds, if_neg hne]
      exact h.miss t fun j oj hj hl => ht j oj hj (by simp [setL, hl])

theorem Fr.at_eq {L L' : Nat → Bool} {a0 a a' : Act} (h : Fr ops vals L a0 a) (h' : Fr ops vals L' a0 a') {t : Tmp} (e : ∀ j o, ops[j]? = some o → o.dst = some t → L j = L' j) : a.tmps[t]? = a'.tmps[t]? := by
  by_cases hj : ∃ j o, ops[j]? = some o ∧ o.dst = some t ∧ L j = true
  · obtain ⟨j, o, hj, hd, hl⟩ := hj
    by_cases ht : t < a0.tmps.size
    · rw [h.hit j o t hj hd hl ht, h'.hit j o t hj hd (by rw [← e j o hj hd]; exact hl) ht]
    · rw [Array.getElem?_eq_none (by rw [h.size]; exact Nat.le_of_not_lt ht), Array.getElem?_eq_none (by rw [h'.size]; exact Nat.le_of_not_lt ht)]
  · rw [h.miss t fun j o hj' hl hd => hj ⟨j, o, hj', hd, hl⟩, h'.miss t fun j o hj' hl hd => hj ⟨j, o, hj', hd, by rw [e j o hj' hd]; exact hl⟩]
theorem Fr.unique {L : Nat → Bool} {a0 a a' : Act} (h : Fr ops vals L a0 a) (h' : Fr ops vals L a0 a') : a = a' := by
  obtain ⟨t1, d1⟩ := a; obtain ⟨t2, d2⟩ := a'
  have hd : d1 = d2 := h.defers.trans h'.defers.symm
  have ht : t1 = t2 := Array.ext_getElem? fun t => h.at_eq (t := t) h' fun _ _ _ _ => rfl
  rw [hd, ht]

/-- What an operation does in one frame, it does in another that agrees on what it looks at. -/
theorem wpOp_elsewhere {i : Nat} {o : Oper} {v : Value} {a a' : Act} {w : World} {R : World → Prop} {Q : Exit → Act → World → Prop} {K : Act → World → Prop} (hi : ops[i]? = some o) (hsel : ∀ cs b, o.op ≠ .select cs b)
    (hsz : a'.tmps.size = a.tmps.size) (hlook : ∀ t ∈ o.looksAt ops, a.tmps[t]? = a'.tmps[t]?)
    (h : wpOp P ops (fun _ _ _ => False) i (fun b w' => b = a.put o.dst v ∧ R w') a w) (hK : ∀ w', R w' → K (a'.put o.dst v) w') : wpOp P ops Q i K a' w := by
  have he : execOp a'.eval o = execOp a.eval o := execOp_congr o hsel fun x hx => by
    cases x with
    | tmp t =>
      have := hlook t (List.mem_append_left _ (List.mem_filterMap.2 ⟨.tmp t, by simpa using hx, rfl⟩))
      simp only [Act.eval, Array.getD_eq_getD_getElem?, this]
    | _ => rfl
  have hw : Region.wanted o (yielded ops a'.tmps) = Region.wanted o (yielded ops a.tmps) := by
    unfold Region.wanted
    cases hg : o.guard with
    | none => rfl
    | some gw =>
      obtain ⟨g, want⟩ := gw
      have hy : yielded ops a'.tmps g = yielded ops a.tmps g := by
        unfold yielded
        cases ht : (ops[g]?).bind (·.dst) with
        | none => rfl
        | some t =>
          have := hlook t (List.mem_append_right _ (by simp [hg, ht]))
          simp [this]
      simp only [hy]
  have hput : ∀ u, a.put o.dst u = a.put o.dst v → a'.put o.dst u = a'.put o.dst v := fun u hu => by
    cases hd : o.dst with
    | none => rfl
    | some d =>
      rw [hd] at hu
      simp only [Act.put, Act.mk.injEq, and_true] at hu ⊢
      by_cases hlt : d < a.tmps.size
      · have h1 : (a.tmps.setIfInBounds d u)[d]? = (a.tmps.setIfInBounds d v)[d]? := by rw [hu]
        simp [Array.getElem?_setIfInBounds, hlt] at h1
        rw [h1]
      · rw [Array.setIfInBounds_eq_of_size_le (by rw [hsz]; exact Nat.le_of_not_lt hlt), Array.setIfInBounds_eq_of_size_le (by rw [hsz]; exact Nat.le_of_not_lt hlt)]
  unfold wpOp at *
  simp only [hi] at *
  rw [hw]
  by_cases hwn : Region.wanted o (yielded ops a.tmps) = true
  · rw [if_pos hwn] at h ⊢
    rcases h with h | ⟨_, _, _, h⟩
    · refine .inl ?_
      unfold Oper.wp at *
      rw [he]
      generalize (execOp a.eval o).run P w = r at *
      cases r with
      | halt x w' => cases x <;> first | exact h | exact h.elim
      | ok n w' =>
        cases n with
        | value u => rw [Oper.upon_value] at h ⊢; have := hK w' h.2; rwa [← hput u h.1] at this
        | skip => rw [Oper.upon_skip] at h ⊢; have := hK w' h.2; rwa [← hput undef h.1] at this
        | defer d =>
          rw [Oper.upon_defer] at h
          have h1 := congrArg (fun a => a.defers.length) h.1
          cases hd : o.dst <;> simp [hd, Act.put] at h1
        | enter f args =>
          rw [Oper.upon_enter] at h ⊢
          refine Calls.mono h fun e w'' hh => ?_
          cases e with
          | returned u => have := hK w'' hh.2; rwa [← hput u hh.1] at this
          | panicked c => exact hh.elim
          | outgrown => obtain ⟨_, _, h⟩ := hh; exact h.elim
        | row row args =>
          rw [Oper.upon_row] at h ⊢
          refine Rows.mono h fun v w'' hh => ?_
          have := hK w'' hh.2; rwa [← hput v hh.1] at this
        | _ => exact h.elim
    · exact h.elim
  · rw [if_neg hwn] at h ⊢
    obtain ⟨h1, h2⟩ := h
    have := hK w h2
    rw [← hput undef h1] at this; exact this

/-- One operation, in the frame of the text's order, in every world of the class in which it may come. -/
def invStep (P : Program) (ops : Array Oper) (S : (Nat → Bool) → World → Prop) (i : Nat) (o : Oper) (v : Value) (a : Act) : Prop :=
  ∀ L w, L i = false → (∀ e ∈ o.after, Region.binds .any e = true → L e.on = true) → S L w → wpOp P ops (fun _ _ _ => False) i (fun a' w' => a' = a.put o.dst v ∧ S (setL i L) w') a w
def wpInv (P : Program) (ops : Array Oper) (S : (Nat → Bool) → World → Prop) (K : Act → Prop) : Nat → List Oper → Act → Prop
  | _, [], a => K a
  | i, o :: rest, a => ∃ v, invStep P ops S i o v a ∧ wpInv P ops S K (i + 1) rest (a.put o.dst v)
def invGood (P : Program) (ops : Array Oper) (S : (Nat → Bool) → World → Prop) (K : Act → Prop) : Nat → List Oper → List Value → Act → Prop
  | _, [], _, a => K a
  | i, o :: rest, v :: vs, a => invStep P ops S i o v a ∧ invGood P ops S K (i + 1) rest vs (a.put o.dst v)
  | _, _ :: _, [], _ => False
theorem inv_vals {K : Act → Prop} : ∀ (l : List Oper) (i : Nat) (a : Act), wpInv P ops S K i l a → ∃ vs : List Value, invGood P ops S K i l vs a
  | [], _, _, h => ⟨[], h⟩
  | o :: l, i, a, h => by
    obtain ⟨v, h1, h2⟩ := h
    obtain ⟨vs, h3⟩ := inv_vals l (i + 1) _ h2
    exact ⟨v :: vs, h1, h3⟩
theorem inv_at (hd : distB ops = true) {K : Act → Prop} {a0 : Act} : ∀ (l : List Oper) (vs : List Value) (i : Nat) (a : Act), (∀ j, j < l.length → l[j]? = ops[i + j]?) → i + l.length = ops.size → (∀ j, j < l.length → vals (i + j) = vs.getD j undef) →
    Fr ops vals (fun j => decide (j < i)) a0 a → invGood P ops S K i l vs a →
    (∀ j o, i ≤ j → ops[j]? = some o → ∃ b, Fr ops vals (fun k => decide (k < j)) a0 b ∧ invStep P ops S j o (vals j) b) ∧ ∃ b, Fr ops vals (fun k => decide (k < ops.size)) a0 b ∧ K b
  | [], vs, i, a, hl, hn, hv, hf, h => by
    simp at hn
    refine ⟨fun j o hj ho => ?_, a, by rw [← hn]; exact hf, h⟩
    have := (Array.getElem?_eq_some_iff.1 ho).1
    omega
  | o :: l, [], i, a, hl, hn, hv, hf, h => h.elim
  | o :: l, v :: vs, i, a, hl, hn, hv, hf, h => by
    obtain ⟨h1, h2⟩ := h
    have ho : ops[i]? = some o := by have := hl 0 (by simp); simpa using this.symm
    have hv0 : vals i = v := by have := hv 0 (by simp); simpa using this
    have hf' : Fr ops vals (fun j => decide (j < i + 1)) a0 (a.put o.dst v) := by
      rw [← hv0]
      refine (hf.put hd ho).congr fun j hj => ?_
      simp only [setL]
      by_cases e : j = i
      · subst e; simp
      · have : (decide (j < i)) = decide (j < i + 1) := by congr 1; apply propext; omega
        simp [e, this]
    obtain ⟨g1, g2⟩ := inv_at hd l vs (i + 1) _ (fun j hj => by have := hl (j + 1) (by simp; omega); rw [show i + 1 + j = i + (j + 1) by omega]; simpa using this) (by simp at hn; omega)
      (fun j hj => by have := hv (j + 1) (by simp; omega); rw [show i + 1 + j = i + (j + 1) by omega]; simpa using this) hf' h2
    refine ⟨fun j oj hj hoj => ?_, g2⟩
    by_cases e : j = i
    · subst e
      rw [ho] at hoj; cases hoj
      exact ⟨a, hf, by rw [hv0]; exact h1⟩
    · exact g1 j oj (by omega) hoj

def cntF (L : Nat → Bool) : Nat → Nat
  | 0 => 0
  | n + 1 => cntF L n + if L n then 0 else 1
theorem cntF_zero {L : Nat → Bool} : ∀ {n : Nat}, cntF L n = 0 → ∀ i, i < n → L i = true
  | n + 1, h, i, hi => by
    simp only [cntF] at h
    have h3 := (Nat.add_eq_zero_iff.1 h).1
    have h2 : L n = true := by cases hh : L n <;> simp [hh] at h ⊢
    by_cases e : i = n
    · rw [e]; exact h2
    · exact cntF_zero h3 i (by omega)
theorem cntF_le (L : Nat → Bool) : ∀ n : Nat, cntF L n ≤ n
  | 0 => Nat.le_refl _
  | n + 1 => by have := cntF_le L n; simp only [cntF]; split <;> omega
theorem cntF_congr {L L' : Nat → Bool} : ∀ {n : Nat}, (∀ i, i < n → L i = L' i) → cntF L n = cntF L' n
  | 0, _ => rfl
  | n + 1, h => by simp only [cntF]; rw [cntF_congr fun i hi => h i (by omega), h n (by omega)]
theorem cntF_set {L : Nat → Bool} {i : Nat} (h : L i = false) : ∀ {n : Nat}, i < n → cntF (setL i L) n + 1 = cntF L n
  | n + 1, hi => by
    simp only [cntF]
    by_cases e : i = n
    · subst e
      have := cntF_congr (L := setL i L) (L' := L) (n := i) fun j hj => by simp [setL, show j ≠ i by omega]
      rw [this]; simp [setL, h]
    · have := cntF_set h (n := n) (by omega)
      have h2 : setL i L n = L n := by simp [setL, Ne.symm e]
      rw [h2]; omega

theorem ready_none (hb : lookB ops = true) {listed : Array Bool} (hsz : listed.size = ops.size) (h : Region.ready .any ops listed = []) : ∀ i, i < ops.size → listed.getD i false = true := by
  intro i
  induction i using Nat.strongRecOn with
  | _ i ih =>
    intro hi
    cases hl : listed.getD i false with
    | true => rfl
    | false =>
      have : i ∈ Region.ready .any ops listed := mem_ready.2 ⟨getD_in (by omega) hl, ops[i], Array.getElem?_eq_getElem hi, fun e he hbd => by
        have hlt := (look_spec hb (Array.getElem?_eq_getElem hi)).2 e he hbd
        exact ih e.on hlt (by omega)⟩
      rw [h] at this; cases this

theorem wpAny_inv {Q : Exit → Act → World → Prop} {a0 : Act} {K : Act → Prop} (hB : invB ops = true) (hstep : ∀ j o, ops[j]? = some o → ∃ b, Fr ops vals (fun k => decide (k < j)) a0 b ∧ invStep P ops S j o (vals j) b)
    {aE : Act} (hE : Fr ops vals (fun k => decide (k < ops.size)) a0 aE) (hQ : ∀ L w, (∀ i, i < ops.size → L i = true) → S L w → Q .normal aE w) :
    ∀ (f : Nat) (listed : Array Bool) (a : Act) (w : World), (∀ j o, ops[j]? = some o → listed.getD j false = true → ∀ e ∈ o.after, Region.binds .any e = true → listed.getD e.on false = true) → listed.size = ops.size → cntF (fun j => listed.getD j false) ops.size ≤ f → Fr ops vals (fun j => listed.getD j false) a0 a → S (fun j => listed.getD j false) w →
    wpAny P .any ops Q f listed a w := by
  simp only [invB, Bool.and_eq_true] at hB
  obtain ⟨⟨hsel, hd⟩, hlk⟩ := hB
  have hend : ∀ (listed : Array Bool) (a : Act) (w : World), listed.size = ops.size → Fr ops vals (fun j => listed.getD j false) a0 a → S (fun j => listed.getD j false) w → (∀ i, i < ops.size → listed.getD i false = true) → Q .normal a w := by
    intro listed a w hsz hf hS hall
    have : a = aE := Fr.unique (hf.congr fun i hi => (hall i hi).trans (decide_eq_true hi).symm) hE
    rw [this]
    exact hQ _ w hall hS
  intro f
  induction f with
  | zero =>
    intro listed a w hcl hsz hc hf hS
    have hall := cntF_zero (Nat.le_zero.1 hc)
    refine ⟨?_, hend listed a w hsz hf hS hall⟩
    apply List.eq_nil_iff_forall_not_mem.2
    intro i hi
    obtain ⟨h1, o, ho, _⟩ := mem_ready.1 hi
    have hil := (Array.getElem?_eq_some_iff.1 ho).1
    have h2 := hall i hil
    simp only [Array.getD_eq_getD_getElem?, Array.getElem?_eq_getElem (show i < listed.size by omega), Option.getD_some] at h1 h2
    rw [h1] at h2; cases h2
  | succ f ih =>
    intro listed a w hcl hsz hc hf hS
    refine ⟨fun h => hend listed a w hsz hf hS (ready_none hlk hsz h), fun i hi => ?_⟩
    obtain ⟨h1, o, ho, hdep⟩ := mem_ready.1 hi
    have hil := (Array.getElem?_eq_some_iff.1 ho).1
    have hun : listed.getD i false = false := by
      simp only [Array.getD_eq_getD_getElem?, Array.getElem?_eq_getElem (show i < listed.size by omega), Option.getD_some] at h1 ⊢
      exact h1
    obtain ⟨b, hb, hst⟩ := hstep i o ho
    have hfun : (fun j => (listed.setIfInBounds i true).getD j false) = setL i fun j => listed.getD j false := by
      funext j
      simp only [setL, Array.getD_eq_getD_getElem?, Array.getElem?_setIfInBounds]
      by_cases e : j = i
      · subst e; simp [show j < listed.size by omega]
      · simp [e, Ne.symm e]
    obtain ⟨hl1, hl2⟩ := look_spec hlk ho
    refine wpOp_elsewhere ho (Region.noSelect_spec hsel i o · · ho) (hf.size.trans hb.size.symm) (fun t ht => hb.at_eq hf fun j oj hoj hdj => ?_) (hst _ w hun hdep hS) fun w' hS' => ih _ _ w' ?_ (by simpa using hsz) ?_ ?_ ?_
    · rcases hl1 t ht j oj hoj hdj with ⟨g1, e, he, hbe, hon⟩ | ⟨g1, e, he, hbe, hon⟩
      · have := hdep e he hbe
        rw [hon] at this
        rw [decide_eq_true g1]; exact this.symm
      · have : listed.getD j false = false := by
          cases hlj : listed.getD j false with
          | false => rfl
          | true =>
            have h4 := hcl j oj hoj hlj e he hbe
            rw [hon, hun] at h4; cases h4
        rw [decide_eq_false (by omega)]; exact this.symm
    · intro j oj hoj hlj e he hbe
      have e1 : (listed.setIfInBounds i true).getD j false = setL i (fun j => listed.getD j false) j := congrFun hfun j
      have e2 : (listed.setIfInBounds i true).getD e.on false = setL i (fun j => listed.getD j false) e.on := congrFun hfun e.on
      rw [e1] at hlj
      rw [e2]
      by_cases hji : j = i
      · subst hji
        rw [ho] at hoj; cases hoj
        have := hdep e he hbe
        simp [setL, this]
      · have h4 : listed.getD j false = true := by simpa [setL, hji] using hlj
        have h5 := hcl j oj hoj h4 e he hbe
        simp [setL, h5]
    · rw [hfun]
      have := cntF_set (L := fun j => listed.getD j false) hun hil
      omega
    · rw [hfun]; exact hf.put hd ho
    · rw [hfun]; exact hS'

theorem wp_region_inv {id : Nat} {Q : Exit → Act → World → Prop} {l : List Oper} {a : Act} {w : World} (S : (Nat → Bool) → World → Prop) (hm : P.follows .mixedOrders = true) (hB : invB l.toArray = true) (hS : S (fun _ => false) w.drew)
    (h : wpInv P l.toArray S (fun a' => ∀ L w', (∀ i, i < l.length → L i = true) → S L w' → Q .normal a' w') 0 l a) : (Code.region id l.toArray true).wp P Q a w := by
  refine wp_region_any hm ?_
  obtain ⟨vs, hv⟩ := inv_vals l 0 a h
  have hd : distB l.toArray = true := by simp only [invB, Bool.and_eq_true] at hB; exact hB.1.2
  obtain ⟨h1, b, h2, h3⟩ := inv_at (vals := fun j => vs.getD j undef) hd l vs 0 a (fun j hj => by simp) (by simp) (fun j hj => by simp) ((Fr.refl a).congr fun i _ => by simp) hv
  refine wpAny_inv (K := fun _ => True) hB (fun j o ho => h1 j o (Nat.zero_le _) ho) h2 (fun L w' hL hS' => h3 L w' (fun i hi => hL i (by simpa using hi)) hS') _ _ _ _ (fun j o _ h => by rw [getD_replicate_false] at h; cases h) (by simp) ?_ ((Fr.refl a).congr fun i hi => ?_) ?_
  · have := cntF_le (fun j => (Array.replicate l.toArray.size false).getD j false) l.toArray.size
    exact this
  · show false = (Array.replicate l.toArray.size false).getD i false
    rw [getD_replicate_false]
  · have : (fun j => (Array.replicate l.toArray.size false).getD j false) = fun _ => false := funext fun j => getD_replicate_false _ _
    rw [this]; exact hS

theorem setL_ne {i j : Nat} (h : i ≠ j) (L : Nat → Bool) : setL i L j = L j := by simp [setL, Ne.symm h]
theorem setL_eq (i : Nat) (L : Nat → Bool) : setL i L i = true := by simp [setL]

/-- The rest of a region, from operation i on. -/
def wpI (P : Program) (l : List Oper) (S : (Nat → Bool) → World → Prop) (K : Act → Prop) (i : Nat) (a : Act) : Prop := wpInv P l.toArray S K i (l.drop i) a
theorem wp_region_I {id : Nat} {Q : Exit → Act → World → Prop} {l : List Oper} {a : Act} {w : World} (S : (Nat → Bool) → World → Prop) (hm : P.follows .mixedOrders = true) (hB : invB l.toArray = true) (hS : S (fun _ => false) w.drew)
    (h : wpI P l S (fun a' => ∀ L w', (∀ i, i < l.length → L i = true) → S L w' → Q .normal a' w') 0 a) : (Code.region id l.toArray true).wp P Q a w := wp_region_inv S hm hB hS h
theorem wpI_end {l : List Oper} {K : Act → Prop} {i : Nat} {a : Act} (hn : l.length ≤ i) (h : K a) : wpI P l S K i a := by unfold wpI; rw [List.drop_eq_nil_of_le hn]; exact h

/-- Reads, by the quiet walk. -/
theorem wpInv_reads {C : World → Prop} (hC : ∀ L w, S L w → C w) {Q : Act → Prop} {l2 : List Oper} : ∀ (l1 : List Oper) (i : Nat) (a : Act), (∀ j, j < l1.length → l1[j]? = ops[i + j]?) → l1.all readB = true → (∀ j, i ≤ j → j < i + l1.length → ∀ L w, S L w → S (setL j L) w) →
    wpQuiet P ops C (fun a' => wpInv P ops S Q (i + l1.length) l2 a') l1 a → wpInv P ops S Q i (l1 ++ l2) a
  | [], _, _, _, _, _, h => h
  | o :: l1, i, a, hl, hr, hS, h => by
    simp only [List.all_cons, Bool.and_eq_true] at hr
    have ho : ops[i]? = some o := by have := hl 0 (by simp); simpa using this.symm
    have hrest : ∀ v, wpQuiet P ops C (fun a' => wpInv P ops S Q (i + (o :: l1).length) l2 a') l1 (a.put o.dst v) → wpInv P ops S Q (i + 1) (l1 ++ l2) (a.put o.dst v) := fun v h2 =>
      wpInv_reads hC l1 (i + 1) _ (fun j hj => by have := hl (j + 1) (by simp; omega); rw [show i + 1 + j = i + (j + 1) by omega]; simpa using this) hr.2 (fun j h1 h2 => hS j (by omega) (by simp; omega)) (by rw [show i + 1 + l1.length = i + (o :: l1).length by simp; omega]; exact h2)
    unfold wpQuiet at h
    by_cases hw : Region.wanted o (yielded ops a.tmps) = true
    · rw [if_pos hw] at h
      obtain ⟨v, h1, h2⟩ := h
      refine ⟨v, fun L w hL hdep hSL => ?_, hrest v h2⟩
      have h3 := h1 w (hC L w hSL)
      unfold wpOp
      simp only [ho, hw, if_true]
      refine .inl ?_
      unfold Oper.wp
      unfold Oper.quietAt at h3
      rcases plain_op (P := P) hr.1 a.eval w with ⟨u, w', e⟩ | ⟨x, w', e⟩
      · rw [e] at h3 ⊢
        obtain ⟨rfl, rfl⟩ := h3
        exact ⟨rfl, hS i (Nat.le_refl _) (by simp) L _ hSL⟩
      · rw [e] at h3; exact h3.elim
    · rw [if_neg hw] at h
      refine ⟨undef, fun L w hL hdep hSL => ?_, hrest undef h⟩
      unfold wpOp
      simp only [ho]
      rw [if_neg hw]
      exact ⟨trivial, hS i (Nat.le_refl _) (by simp) L _ hSL⟩
theorem wpI_reads {C : World → Prop} {K : Act → Prop} {l : List Oper} {i : Nat} {a : Act} (k : Nat) (hk : i + k ≤ l.length) (hr : ((l.drop i).take k).all readB = true) (hC : ∀ L w, S L w → C w) (hS : ∀ j, i ≤ j → j < i + k → ∀ L w, S L w → S (setL j L) w)
    (h : wpQuiet P l.toArray C (fun a' => wpI P l S K (i + k) a') ((l.drop i).take k) a) : wpI P l S K i a := by
  unfold wpI
  rw [← List.take_append_drop k (l.drop i)]
  have hlen : ((l.drop i).take k).length = k := by simp; omega
  refine wpInv_reads hC _ i a (fun j hj => by rw [hlen] at hj; simp [List.getElem?_take, hj, List.getElem?_drop]) hr (by rw [hlen]; exact hS) ?_
  rw [hlen, List.drop_drop]
  exact h
/-- One operation that turns the world, by a law on sequences. -/
theorem wpI_eff {K : Act → Prop} {l : List Oper} {i : Nat} {o : Oper} {a : Act} (ho : l[i]? = some o) (hg : o.guard = none) (v : Value)
    (h : ∀ L w, L i = false → (∀ e ∈ o.after, Region.binds .any e = true → L e.on = true) → S L w → wpList P l.toArray (Exit.then (fun a' w' => a' = a.put o.dst v ∧ S (setL i L) w') (fun _ _ _ => False)) [o] a w)
    (hk : wpI P l S K (i + 1) (a.put o.dst v)) : wpI P l S K i a := by
  obtain ⟨hlt, hget⟩ := List.getElem?_eq_some_iff.1 ho
  unfold wpI
  rw [List.drop_eq_getElem_cons hlt, hget]
  exact ⟨v, fun L w hL hdep hSL => wpOp_list (by simpa using ho) hg (h L w hL hdep hSL), hk⟩
/-- The same, guarded: it is done. -/
theorem wpI_effG {K : Act → Prop} {l : List Oper} {i : Nat} {o : Oper} {a : Act} (ho : l[i]? = some o) (hw : Region.wanted o (yielded l.toArray a.tmps) = true) (v : Value)
    (h : ∀ L w, L i = false → (∀ e ∈ o.after, Region.binds .any e = true → L e.on = true) → S L w → wpList P l.toArray (Exit.then (fun a' w' => a' = a.put o.dst v ∧ S (setL i L) w') (fun _ _ _ => False)) [o] a w)
    (hk : wpI P l S K (i + 1) (a.put o.dst v)) : wpI P l S K i a := by
  obtain ⟨hlt, hget⟩ := List.getElem?_eq_some_iff.1 ho
  unfold wpI
  rw [List.drop_eq_getElem_cons hlt, hget]
  exact ⟨v, fun L w hL hdep hSL => wpOp_listG (by simpa using ho) hw (h L w hL hdep hSL), hk⟩
/-- The same, guarded: it is not done. -/
theorem wpI_skip {K : Act → Prop} {l : List Oper} {i : Nat} {o : Oper} {a : Act} (ho : l[i]? = some o) (hw : Region.wanted o (yielded l.toArray a.tmps) = false)
    (h : ∀ L w, S L w → S (setL i L) w) (hk : wpI P l S K (i + 1) (a.put o.dst undef)) : wpI P l S K i a := by
  obtain ⟨hlt, hget⟩ := List.getElem?_eq_some_iff.1 ho
  unfold wpI
  rw [List.drop_eq_getElem_cons hlt, hget]
  refine ⟨undef, fun L w hL hdep hSL => ?_, hk⟩
  unfold wpOp
  simp only [show l.toArray[i]? = some o by simpa using ho]
  rw [if_neg (by simp [hw])]
  exact ⟨trivial, h L w hSL⟩
end
end Go.Proofs.YtgelingkifafeaaGreatDoor
