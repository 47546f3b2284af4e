import Derived.Test.YthaamnjpjkkolabDoorMaPlain
import Derived.Test.YthaamnjpjkkolabDoorAnyP
/- Which shards are read, in plain words: the short way, or the first set that does, by size. -/
namespace Go.Proofs.YthaamnjpjkkolabDoor
open Lin Gf
set_option maxRecDepth 100000
set_option linter.unusedVariables false

theorem rankL_eq {D : Nat} {M : Mat} {l : List Nat} (hD : D ≤ 64) (hl : l.length ≤ 64) : rankL D M l = (rk (RL D M l) D : Int) := by
  unfold rankL
  rw [rankV_ok hl (by rw [wid_plain]; split <;> omega), wid_plain, reduce_rank, rows_plain]
  show ((rk (RL D M l) _ : Nat) : Int) = _
  by_cases h : l.length = 0
  · rw [if_pos h]
    have e0 : rk (RL D M l) 0 = 0 := Nat.le_zero.1 (rk_le _ 0)
    have e1 := rk_len D M l D
    rw [e0]; congr 1; omega
  · rw [if_neg h]

/-- The sets of n of a list's places, in the order in which they are gone through. -/
def subs : Nat → List Nat → Nat → List Nat
  | 0, _, s => [s]
  | _ + 1, [], _ => []
  | n + 1, a :: l, s => subs n l (s ||| 2 ^ a) ++ subs (n + 1) l s

theorem subs_short : ∀ {l : List Nat} {n s : Nat}, l.length < n → subs n l s = []
  | [], 0, _, h => absurd h (by simp)
  | [], n + 1, _, _ => by simp [subs]
  | a :: l, 0, _, h => absurd h (by simp)
  | a :: l, n + 1, s, h => by
    simp only [List.length_cons] at h
    rw [subs, subs_short (l := l) (by omega), subs_short (l := l) (by omega)]; rfl

theorem mask_cons (a : Nat) (l : List Nat) : mask (a :: l) = 2 ^ a ||| mask l := rfl
theorem mem_subs : ∀ {l : List Nat} {n s x : Nat}, x ∈ subs n l s ↔ ∃ k : List Nat, k.Sublist l ∧ k.length = n ∧ x = s ||| mask k
  | l, 0, s, x => by
    simp only [subs, List.mem_singleton]
    constructor
    · rintro rfl; exact ⟨[], List.nil_sublist _, rfl, by simp [mask]⟩
    · rintro ⟨k, _, hk, rfl⟩
      rw [List.length_eq_zero_iff.1 hk]; simp [mask]
  | [], n + 1, s, x => by
    simp only [subs, List.not_mem_nil, false_iff]
    rintro ⟨k, hk, hl, _⟩
    rw [List.sublist_nil.1 hk] at hl; simp at hl
  | a :: l, n + 1, s, x => by
    rw [subs, List.mem_append, mem_subs (l := l), mem_subs (l := l)]
    constructor
    · rintro (⟨k, h1, h2, rfl⟩ | ⟨k, h1, h2, rfl⟩)
      · exact ⟨a :: k, h1.cons_cons a, by simp [h2], by rw [mask_cons, Nat.or_assoc]⟩
      · exact ⟨k, h1.cons a, h2, rfl⟩
    · rintro ⟨k, h1, h2, rfl⟩
      rcases List.sublist_cons_iff.1 h1 with h | ⟨r, rfl, h⟩
      · exact .inr ⟨k, h, h2, rfl⟩
      · exact .inl ⟨r, h, by simpa using h2, by rw [mask_cons, Nat.or_assoc]⟩

theorem sel_pair (N : Nat) (p : Nat → Bool) : (sel N p).Pairwise (· < ·) := List.Pairwise.filter _ List.pairwise_lt_range
theorem sel_mask {N : Nat} {p : Nat → Bool} {k : List Nat} (h : k.Sublist (sel N p)) : sel N (mask k).testBit = k :=
  filter_mask ((sel_pair N p).sublist h) fun i hi => (mem_sel.1 (h.subset hi)).1
theorem mask_sel {N x : Nat} (hx : x < 2 ^ N) : mask (sel N x.testBit) = x := by
  apply Nat.eq_of_testBit_eq
  intro i
  rw [testBit_mask]
  by_cases h : i < N
  · by_cases hb : x.testBit i = true
    · simp [mem_sel, h, hb]
    · simp [mem_sel, hb]
  · have : x.testBit i = false := Nat.testBit_lt_two_pow (Nat.lt_of_lt_of_le hx (Nat.pow_le_pow_right (by omega) (by omega)))
    simp [mem_sel, h, this]

/-- Do the rows of the set 'read' make those of the set x? -/
def spB (D L N x read : Nat) : Bool := rankL D (codeM D L) (sel N read.testBit ++ sel N x.testBit) == rankL D (codeM D L) (sel N read.testBit)
theorem spB_iff {D L N x read : Nat} (hD : D ≤ 12) (hN : N ≤ 16) : spB D L N x read = true ↔ Spans D (codeM D L) (sel N read.testBit) (sel N x.testBit) := by
  have h1 : (sel N read.testBit).length ≤ 16 := Nat.le_trans (sel_len _ _) hN
  have h2 : (sel N x.testBit).length ≤ 16 := Nat.le_trans (sel_len _ _) hN
  rw [← spans_iff]
  unfold spB
  rw [rankL_eq (by omega) (by rw [List.length_append]; omega), rankL_eq (by omega) (by omega)]
  constructor
  · intro h; have := of_decide_eq_true h; omega
  · intro h; rw [h]; simp

/-- All places that are there, as a set. -/
def thereN (N x : Nat) : Nat := (2 ^ 64 - (x + 1)) % 2 ^ N
/-- From the size k on, m sizes: the first set that does. -/
def searchN (D L N x : Nat) : Nat → Nat → Nat
  | 0, _ => thereN N x
  | m + 1, k => match (subs k (left N x) 0).find? (spB D L N x) with
    | some s => s
    | none => searchN D L N x m (k + 1)
theorem search_hit {D L N x m k s : Nat} (h : (subs k (left N x) 0).find? (spB D L N x) = some s) : searchN D L N x (m + 1) k = s := by
  unfold searchN; rw [h]
theorem search_miss {D L N x m k : Nat} (h : (subs k (left N x) 0).find? (spB D L N x) = none) : searchN D L N x (m + 1) k = searchN D L N x m (k + 1) := by
  conv => lhs; unfold searchN
  rw [h]

theorem search_ok {D L N x : Nat} : ∀ {m k : Nat}, (∃ j s, k ≤ j ∧ j < k + m ∧ s ∈ subs j (left N x) 0 ∧ spB D L N x s = true) →
    ∃ j, k ≤ j ∧ j < k + m ∧ searchN D L N x m k ∈ subs j (left N x) 0 ∧ spB D L N x (searchN D L N x m k) = true ∧ ∀ i, k ≤ i → i < j → ∀ s ∈ subs i (left N x) 0, spB D L N x s = false
  | 0, k, h => by obtain ⟨j, s, h1, h2, _⟩ := h; omega
  | m + 1, k, h => by
    cases hf : (subs k (left N x) 0).find? (spB D L N x) with
    | some s =>
      rw [search_hit hf]
      exact ⟨k, Nat.le_refl _, by omega, List.mem_of_find?_eq_some hf, List.find?_some hf, fun i h1 h2 => by omega⟩
    | none =>
      rw [search_miss hf]
      have hn : ∀ s ∈ subs k (left N x) 0, spB D L N x s = false := fun s hs => by simpa using List.find?_eq_none.1 hf s hs
      obtain ⟨j, s, h1, h2, h3, h4⟩ := h
      have hjk : j ≠ k := fun e => by subst e; rw [hn s h3] at h4; exact absurd h4 (by simp)
      obtain ⟨j', a1, a2, a3, a4, a5⟩ := search_ok (m := m) (k := k + 1) ⟨j, s, by omega, by omega, h3, h4⟩
      exact ⟨j', by omega, by omega, a3, a4, fun i h1 h2 s hs => by
        by_cases e : i = k
        · exact hn s (e ▸ hs)
        · exact a5 i (by omega) h2 s hs⟩

/-- The group of a shard that is in one. -/
def grp (D L i : Nat) : Nat := if i < D then i / (D / L) else i - D
/-- Is b in group g? -/
def inG (D L g b : Nat) : Bool := b == D + g || (decide (b < D) && b / (D / L) == g)
/-- The others of its group, as a set. -/
def locN (D L N i : Nat) : Nat := mask (sel N fun b => inG D L (grp D L i) b && b != i)
/-- The shards that are read. -/
def readsN (D L N x : Nat) : Nat := match sel N x.testBit with
  | [i] => if i < D + L then locN D L N i else searchN D L N x (D + 1) 0
  | _ => searchN D L N x (D + 1) 0
theorem reads_one {D L N x i : Nat} (h : sel N x.testBit = [i]) (hi : i < D + L) : readsN D L N x = locN D L N i := by
  unfold readsN; rw [h]; simp only; rw [if_pos hi]
theorem reads_far {D L N x i : Nat} (h : sel N x.testBit = [i]) (hi : ¬ i < D + L) : readsN D L N x = searchN D L N x (D + 1) 0 := by
  unfold readsN; rw [h]; simp only; rw [if_neg hi]
theorem reads_many {D L N x : Nat} (h : (sel N x.testBit).length ≠ 1) : readsN D L N x = searchN D L N x (D + 1) 0 := by
  unfold readsN; split
  · rename_i i e; rw [e] at h; simp at h
  · rfl
theorem reads_search {D L N x : Nat} (h : ∀ i, sel N x.testBit = [i] → ¬ i < D + L) : readsN D L N x = searchN D L N x (D + 1) 0 := by
  by_cases h1 : (sel N x.testBit).length = 1
  · obtain ⟨i, hi⟩ := List.length_eq_one_iff.1 h1
    exact reads_far hi (h i hi)
  · exact reads_many h1

theorem codeM_g {D L k j : Nat} (hk : ¬ k < D) (hkL : k < D + L) : codeM D L k j = if j / (D / L) = k - D then 1 else 0 := by
  unfold codeM; rw [if_neg hk, if_pos hkL]
  by_cases h : j / (D / L) = k - D
  · rw [if_pos h, if_pos (by omega)]
  · rw [if_neg h, if_neg (by omega)]

/-- What is read does, is no lost shard, and no fewer do. -/
structure ReadsOk (D L G x : Nat) (r : Nat) : Prop where
  lt : r < 2 ^ (D + L + G)
  apart : ∀ b, r.testBit b = true → x.testBit b = false
  spans : Spans D (codeM D L) (sel (D + L + G) r.testBit) (sel (D + L + G) x.testBit)
  least : ∀ l : List Nat, (∀ i ∈ l, i < D + L + G ∧ x.testBit i = false) → l.Pairwise (· < ·) → Spans D (codeM D L) l (sel (D + L + G) x.testBit) → (sel (D + L + G) r.testBit).length ≤ l.length
  data : (sel (D + L + G) r.testBit).length ≤ D

theorem left_mem {N x i : Nat} : i ∈ left N x ↔ i < N ∧ x.testBit i = false := by unfold left; rw [mem_sel]; simp

theorem sublist_of_pairwise : ∀ {l m : List Nat}, l.Pairwise (· < ·) → m.Pairwise (· < ·) → (∀ i ∈ l, i ∈ m) → l.Sublist m
  | [], m, _, _, _ => List.nil_sublist _
  | a :: l, [], _, _, h => absurd (h a (List.mem_cons_self ..)) (by simp)
  | a :: l, b :: m, hl, hm, h => by
    rw [List.pairwise_cons] at hl hm
    by_cases e : a = b
    · subst e
      refine (sublist_of_pairwise hl.2 hm.2 fun i hi => ?_).cons_cons a
      rcases List.mem_cons.1 (h i (List.mem_cons_of_mem _ hi)) with rfl | h1
      · exact absurd (hl.1 i hi) (by omega)
      · exact h1
    · have hba : a ∈ m := by
        rcases List.mem_cons.1 (h a (List.mem_cons_self ..)) with h1 | h1
        · exact absurd h1 e
        · exact h1
      have hab := hm.1 a hba
      refine (sublist_of_pairwise (l := a :: l) (m := m) (List.pairwise_cons.2 hl) hm.2 fun i hi => ?_).cons b
      rcases List.mem_cons.1 (h i hi) with rfl | h1
      · exfalso
        rcases List.mem_cons.1 hi with rfl | h2
        · omega
        · have := hl.1 i h2; omega
      · exact h1

theorem search_reads {D L G x : Nat} (h1 : 1 ≤ D) (h2 : D ≤ 12) (h7 : D + L + G ≤ 16) (hd : decB D L G x = true) : ReadsOk D L G x (searchN D L (D + L + G) x (D + 1) 0) := by
  have hrk : rk (RL D (codeM D L) (left (D + L + G) x)) D = D := (decB_iff h1 h2 h7).1 hd
  obtain ⟨b, hb1, hb2, hb3⟩ := basis D (codeM D L) (left (D + L + G) x)
  have hbD : b.length ≤ D := hb2 ▸ rk_le _ _
  have hall : ∀ i, Sp (RL D (codeM D L) (left (D + L + G) x)) (tr D (codeM D L) i) := by
    intro i
    obtain ⟨u, hu, hut⟩ := span_of_rk (S := RL D (codeM D L) (left (D + L + G) x)) (T := RL D (codeM D L) (left (D + L + G) x ++ [i])) (RL.sub fun i hi => List.mem_append_left _ hi) D
      (Nat.le_antisymm (rk_mono (RL.sub fun i hi => List.mem_append_left _ hi) D) (Nat.le_trans (rk_le _ _) (Nat.le_of_eq hrk.symm))) (.row (RL.mk (List.mem_append_right _ (List.mem_singleton.2 rfl))))
    have : u = tr D (codeM D L) i := by
      funext j
      by_cases hj : j < D
      · exact hut j hj
      · rw [sp_zero hu j (by omega)]; unfold tr; rw [if_neg hj]
    exact this ▸ hu
  have hbs : Spans D (codeM D L) b (sel (D + L + G) x.testBit) := hb3.trans fun i _ => hall i
  have hbm : mask b ∈ subs b.length (left (D + L + G) x) 0 := mem_subs.2 ⟨b, hb1, rfl, by simp⟩
  obtain ⟨j, a1, a2, a3, a4, a5⟩ := search_ok (D := D) (L := L) (N := D + L + G) (x := x) (m := D + 1) (k := 0) ⟨b.length, mask b, Nat.zero_le _, by omega, hbm, (spB_iff h2 h7).2 (by rw [sel_mask hb1]; exact hbs)⟩
  generalize searchN D L (D + L + G) x (D + 1) 0 = r at *
  obtain ⟨k, k1, k2, rfl⟩ := mem_subs.1 a3
  rw [Nat.zero_or] at *
  have hsel : sel (D + L + G) (mask k).testBit = k := sel_mask k1
  refine ⟨mask_lt fun i hi => (left_mem.1 (k1.subset hi)).1, fun b hb => ?_, (spB_iff h2 h7).1 a4, fun l hl hp hs => ?_, by rw [hsel]; omega⟩
  · rw [testBit_mask] at hb
    exact (left_mem.1 (k1.subset (of_decide_eq_true hb))).2
  · rw [hsel]
    refine Classical.byContradiction fun hn => ?_
    have hsub : l.Sublist (left (D + L + G) x) := sublist_of_pairwise hp (sel_pair _ _) fun i hi => left_mem.2 (hl i hi)
    have := a5 l.length (Nat.zero_le _) (by omega) (mask l) (mem_subs.2 ⟨l, hsub, rfl, by simp⟩)
    rw [(spB_iff h2 h7).2 (by rw [sel_mask hsub]; exact hs)] at this
    exact absurd this (by simp)

theorem loc_bit {D L N i b : Nat} : (locN D L N i).testBit b = true ↔ b < N ∧ inG D L (grp D L i) b = true ∧ b ≠ i := by
  unfold locN; rw [testBit_mask]; simp [mem_sel]
theorem inG_iff {D L g b : Nat} : inG D L g b = true ↔ b = D + g ∨ b < D ∧ b / (D / L) = g := by simp [inG]
end Go.Proofs.YthaamnjpjkkolabDoor
namespace Go.Proofs.YthaamnjpjkkolabDoor
open Lin Gf

theorem group_lt {D L s g : Nat} (hD : D = L * s) (hg : g < L) : g * s + s ≤ D := by
  have : (g + 1) * s ≤ L * s := Nat.mul_le_mul_right _ (by omega)
  rw [Nat.add_mul] at this; omega
theorem div_group {j s g : Nat} (hs : 0 < s) : j / s = g ↔ g * s ≤ j ∧ j < g * s + s := by
  constructor
  · rintro rfl
    have h1 := Nat.div_add_mod j s
    have h2 := Nat.mod_lt j hs
    have h3 : j / s * s = s * (j / s) := Nat.mul_comm ..
    omega
  · rintro ⟨h1, h2⟩
    exact Nat.div_eq_of_lt_le h1 (by rw [Nat.add_mul]; omega)

/-- Partial sums of the rows of a group's data shards, but i. -/
theorem group_sum {D L N s g i : Nat} {l : List Nat} (hs : 0 < s) (hD : D = L * s) (hg : g < L) (hl : ∀ b, b < D → b / s = g → b ≠ i → b ∈ l) : ∀ k, k ≤ s → Sp (RL D (codeM D L) l) (fun j => if g * s ≤ j ∧ j < g * s + k ∧ j ≠ i then 1 else 0)
  | 0, _ => by
    refine cast (congrArg (Sp _) (funext fun j => ?_)) (Sp.zero (S := RL D (codeM D L) l))
    rw [if_neg (by omega)]
  | k + 1, hk => by
    have hgs := group_lt hD hg
    have ih := group_sum (D := D) (L := L) (N := N) hs hD hg hl k (by omega)
    by_cases e : g * s + k = i
    · refine cast (congrArg (Sp _) (funext fun j => ?_)) ih
      by_cases h : g * s ≤ j ∧ j < g * s + k ∧ j ≠ i
      · rw [if_pos h, if_pos (by omega)]
      · rw [if_neg h, if_neg (by omega)]
    · have hm : g * s + k ∈ l := hl _ (by omega) ((div_group hs).2 (by omega)) e
      refine cast (congrArg (Sp _) (funext fun j => ?_)) (ih.add (.row (RL.mk (M := codeM D L) (D := D) hm)))
      show _ ^^^ tr D (codeM D L) (g * s + k) j = _
      have ht : tr D (codeM D L) (g * s + k) j = if j = g * s + k then 1 else 0 := by
        unfold tr codeM
        by_cases hj : j < D
        · rw [if_pos hj, if_pos (by omega)]
          by_cases e : g * s + k = j
          · rw [if_pos e, if_pos e.symm]
          · rw [if_neg e, if_neg (Ne.symm e)]
        · rw [if_neg hj, if_neg (by omega)]
      rw [ht]
      by_cases h : j = g * s + k
      · rw [if_neg (by omega), if_pos h, if_pos (by omega)]; rfl
      · rw [if_neg h]
        by_cases h' : g * s ≤ j ∧ j < g * s + k ∧ j ≠ i
        · rw [if_pos h', if_pos (by omega)]; rfl
        · rw [if_neg h', if_neg (by omega)]; rfl

theorem local_reads {D L G i x : Nat} (h1 : 1 ≤ D) (h3 : 1 ≤ L) (h6 : D % L = 0) (h7 : D + L + G ≤ 16) (hx : sel (D + L + G) x.testBit = [i]) (hi : i < D + L) :
    ReadsOk D L G x (locN D L (D + L + G) i) ∧ (sel (D + L + G) (locN D L (D + L + G) i).testBit).length = D / L := by
  obtain ⟨s, hs⟩ : ∃ s, s = D / L := ⟨_, rfl⟩
  have hD : D = L * s := by
    have := Nat.div_add_mod D L
    rw [h6, ← hs] at this; omega
  have hs0 : 0 < s := by
    rcases Nat.eq_zero_or_pos s with h | h
    · rw [h] at hD; simp at hD; omega
    · exact h
  obtain ⟨g, hg⟩ : ∃ g, g = grp D L i := ⟨_, rfl⟩
  have hgi : (i < D ∧ i / s = g) ∨ i = D + g := by
    unfold grp at hg
    by_cases h : i < D
    · rw [if_pos h, ← hs] at hg; exact .inl ⟨h, hg.symm⟩
    · rw [if_neg h] at hg; exact .inr (by omega)
  have hgL : g < L := by
    rcases hgi with ⟨h, e⟩ | h
    · have : i / s < L := (Nat.div_lt_iff_lt_mul hs0).2 (hD ▸ h)
      omega
    · omega
  have hgs := group_lt hD hgL
  obtain ⟨N, hN⟩ : ∃ N, N = D + L + G := ⟨_, rfl⟩
  have hbit : ∀ b, (locN D L (D + L + G) i).testBit b = true ↔ b < D + L + G ∧ (b = D + g ∨ b < D ∧ b / s = g) ∧ b ≠ i := fun b => by
    rw [loc_bit, ← hg, inG_iff, ← hs]
  have hxi : ∀ b, b < D + L + G → (x.testBit b = true ↔ b = i) := fun b hb => by
    have : b ∈ sel (D + L + G) x.testBit ↔ b = i := by rw [hx]; simp
    rw [mem_sel] at this
    exact ⟨fun h => this.1 ⟨hb, h⟩, fun h => (this.2 h).2⟩
  have hmem : ∀ b, b ∈ sel (D + L + G) (locN D L (D + L + G) i).testBit ↔ b < D + L + G ∧ (b = D + g ∨ b < D ∧ b / s = g) ∧ b ≠ i := fun b => by
    rw [mem_sel, hbit]; exact ⟨fun h => h.2, fun h => ⟨h.1, h⟩⟩
  have hsp : Spans D (codeM D L) (sel (D + L + G) (locN D L (D + L + G) i).testBit) [i] := by
    intro i' hi'
    obtain rfl := List.mem_singleton.1 hi'
    have h0 := group_sum (D := D) (L := L) (N := N) (i := i') hs0 hD hgL (fun b hb hbg hne => (hmem b).2 ⟨by omega, .inr ⟨hb, hbg⟩, hne⟩) s (Nat.le_refl _)
    rcases hgi with ⟨h, e⟩ | h
    · have hp : D + g ∈ sel (D + L + G) (locN D L (D + L + G) i').testBit := (hmem _).2 ⟨by omega, .inl rfl, by omega⟩
      refine cast (congrArg (Sp _) (funext fun j => ?_)) (h0.add (.row (RL.mk (M := codeM D L) (D := D) hp)))
      show _ ^^^ tr D (codeM D L) (D + g) j = tr D (codeM D L) i' j
      unfold tr
      by_cases hj : j < D
      · rw [if_pos hj, if_pos hj, codeM_g (by omega) (by omega), ← hs, show D + g - D = g by omega]
        unfold codeM
        rw [if_pos h]
        have hdg := div_group (j := j) (g := g) hs0
        have hdi := (div_group (j := i') (g := g) hs0).1 e
        by_cases hj' : j / s = g
        · have := hdg.1 hj'
          rw [if_pos hj']
          by_cases e' : j = i'
          · rw [if_neg (by omega), if_pos e'.symm]; rfl
          · rw [if_pos (by omega), if_neg (Ne.symm e')]; rfl
        · have : ¬ (g * s ≤ j ∧ j < g * s + s) := fun h => hj' (hdg.2 h)
          rw [if_neg (by omega), if_neg hj', if_neg (by omega)]; rfl
      · rw [if_neg hj, if_neg hj, if_neg (by omega)]; rfl
    · refine cast (congrArg (Sp _) (funext fun j => ?_)) h0
      show _ = tr D (codeM D L) i' j
      unfold tr
      by_cases hj : j < D
      · rw [if_pos hj, codeM_g (by omega) (by omega), ← hs, show i' - D = g by omega]
        have hdg := div_group (j := j) (g := g) hs0
        by_cases hj' : j / s = g
        · have := hdg.1 hj'
          rw [if_pos hj', if_pos (by omega)]
        · have : ¬ (g * s ≤ j ∧ j < g * s + s) := fun h => hj' (hdg.2 h)
          rw [if_neg hj', if_neg (by omega)]
      · rw [if_neg hj, if_neg (by omega)]
  have hlen : (sel (D + L + G) (locN D L (D + L + G) i).testBit).length ≤ s := by
    obtain ⟨K, hK⟩ : ∃ K, K = (D + g) :: (List.range s).map (fun t => g * s + t) := ⟨_, rfl⟩
    have e1 : ∀ b, b = D + g ∨ b < D ∧ b / s = g → b ∈ K := by
      rintro b (rfl | ⟨_, h⟩)
      · rw [hK]; exact List.mem_cons_self ..
      · have := (div_group hs0).1 h
        rw [hK]
        exact List.mem_cons_of_mem _ (List.mem_map.2 ⟨b - g * s, by simp; omega, by omega⟩)
    have e2 := cnt_mem (D + L + G) K
    have e3 : K.length = s + 1 := by rw [hK]; simp
    have hiK : i ∈ K := e1 i (by omega)
    have e4 : (sel (D + L + G) (locN D L (D + L + G) i).testBit).length < cnt (D + L + G) (fun k => decide (k ∈ K)) := by
      refine filter_length_lt (fun b hb => ?_) _ (a := i) (by simp; omega) (by simpa using hiK) ?_
      · exact decide_eq_true (e1 b ((hbit b).1 hb).2.1)
      · rw [Bool.eq_false_iff]; exact fun h => ((hbit i).1 h).2.2 rfl
    omega
  have hshort : ∀ l : List Nat, (∀ b ∈ l, b < D + L + G ∧ b ≠ i) → Spans D (codeM D L) l [i] → s ≤ l.length := fun l hl hsl =>
    short (M := codeM D L) (G := G) (g := g) (i := i) hD (by omega) hgL (fun k hk j _ => by unfold codeM; rw [if_pos hk]) (fun k hk j hj => by rw [codeM_g (by omega) (by omega), ← hs, show D + k - D = k by omega])
      (fun k hk j hj => by
        unfold codeM; rw [if_neg (by omega), if_neg (by omega)]
        show Gf.inv (UInt8.ofNat ((D + L + k - L) ^^^ j)) = _
        rw [show D + L + k - L = D + k by omega]
        congr 1
        exact UInt8.ofNat_xor ..)
      (by rcases hgi with ⟨h, e⟩ | h
          · exact .inl ((div_group hs0).1 e)
          · exact .inr h) (fun p hp => (hl p hp).1) (fun h => (hl i h).2 rfl) hsl
  have hge := hshort _ (fun b hb => ⟨((hmem b).1 hb).1, ((hmem b).1 hb).2.2⟩) hsp
  refine ⟨⟨mask_lt fun b hb => (mem_sel.1 hb).1, fun b hb => ?_, by rw [hx]; exact hsp, fun l hl hp hsl => ?_, ?_⟩, by omega⟩
  · have hb' := (hbit b).1 hb
    rw [Bool.eq_false_iff]
    exact fun h => hb'.2.2 ((hxi b hb'.1).1 h)
  · rw [hx] at hsl
    have := hshort l (fun b hb => ⟨(hl b hb).1, fun e => by have := (hl b hb).2; rw [(hxi b (hl b hb).1).2 e] at this; exact absurd this (by simp)⟩) hsl
    omega
  · have : g * s + s ≤ D := hgs
    omega

theorem reads_ok {D L G x : Nat} (h1 : 1 ≤ D) (h2 : D ≤ 12) (h3 : 1 ≤ L) (h6 : D % L = 0) (h7 : D + L + G ≤ 16) (hd : decB D L G x = true) : ReadsOk D L G x (readsN D L (D + L + G) x) := by
  by_cases h : ∃ i, sel (D + L + G) x.testBit = [i] ∧ i < D + L
  · obtain ⟨i, hx, hi⟩ := h
    rw [reads_one hx hi]
    exact (local_reads h1 h3 h6 h7 hx hi).1
  · rw [reads_search fun i hx hi => h ⟨i, hx, hi⟩]
    exact search_reads h1 h2 h7 hd
end Go.Proofs.YthaamnjpjkkolabDoor
