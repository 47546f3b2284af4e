import Derived.Test.YtgelingkifafeaaGreatDoorBu04
import Derived.Laws.AppendOwn
import Derived.Laws.AppendOwnNone
/- A slice that the call itself builds by append, told by the index. -/
namespace Go.Proofs.YtgelingkifafeaaGreatDoor
open Go.RowKit Go.Proofs

/-- v is a slice of n elements of type e, of one cell each, told by f: nil, or at the head of an own block from base on. -/
def Vc (w : World) (base e : Nat) (v : Value) (n : Nat) (f : Nat → Value) : Prop := w.ownsRow base e 1 v n ((List.range n).map f)

section
variable {w w' : World} {base e n : Nat} {v : Value} {f g : Nat → Value}

theorem Vc.nil (w : World) (base e : Nat) (f : Nat → Value) : Vc w base e (.slice none 0 0) 0 f := World.ownsRow_nil w base e 1

theorem Vc.congr (h : Vc w base e v n f) (hfg : ∀ i, i < n → f i = g i) : Vc w base e v n g := by
  unfold Vc at *
  rwa [show (List.range n).map g = (List.range n).map f from List.map_congr_left fun i hi => (hfg i (by simpa using hi)).symm]

theorem Vc.lt (h : Vc w base e v n f) : ∀ k, v.ownBlock = some k → base ≤ k ∧ k < w.heap.size := World.ownsRow.lt h

/-- What such a slice is, as the walk sees it. -/
theorem Vc.shape (h : Vc w base e v n f) : ∃ a b c, v = .slice a n c ∧ (0 < n → a = some ⟨b, 0, none⟩) ∧ Row w b 0 n f ∧ n ≤ c ∧ (0 < n → base ≤ b ∧ Kd w b e) ∧ (∀ k, v.ownBlock = some k → k = b) := by
  obtain ⟨hl, h⟩ := h
  rcases h with ⟨rfl, rfl⟩ | ⟨g, cap, cur, rfl, hb, hg, hn, hm, hs, ht⟩
  · exact ⟨none, 0, 0, rfl, fun h => absurd h (by omega), Row.empty _ _ _ _, Nat.le_refl _, fun h => absurd h (by omega), by simp [Value.ownBlock]⟩
  · refine ⟨_, g, cap, rfl, fun _ => rfl, ⟨fun i hi => ?_, fun i hi => ?_⟩, hn, fun _ => ⟨hb, cur, hg⟩, by simp [Value.ownBlock]⟩
    · simp only [World.cell?, hg, Nat.zero_add]
      have : cur.toList[i]? = some (f i) := by
        have e2 : (cur.toList.take (n * 1))[i]? = ((List.range n).map f)[i]? := by rw [ht]
        rw [List.getElem?_take, if_pos (by omega)] at e2
        rw [e2]; simp [hi]
      simpa using this
    · simp [World.frozen?, hg]

theorem Vc.kept {G : Nat → Prop} (h : Vc w base e v n f) (hu : Upd G w w') (hne : ∀ k, v.ownBlock = some k → ¬ G k) : Vc w' base e v n f := by
  refine ⟨h.1, ?_⟩
  rcases h.2 with hn | ⟨g, cap, cur, rfl, hb, hg, rest⟩
  · exact .inl hn
  · exact .inr ⟨g, cap, cur, rfl, hb, by rw [hu.block g (Array.getElem?_eq_some_iff.1 hg).1 (hne g rfl)]; exact hg, rest⟩
theorem Vc.alloc (h : Vc w base e v n f) (o : Obj) : Vc (w.alloc o) base e v n f := World.ownsRow.alloc h o
theorem Vc.later (h : Vc w base e v n f) (hb : Below w.heap.size w w') : Vc w' base e v n f := h.kept (Upd.of_below hb) (fun _ _ => id)
theorem Vc.drewN (h : Vc w base e v n f) (k : Nat) : Vc (w.drewN k) base e v n f := h
/-- Another block of the same kind of memory but of another element type. -/
theorem Vc.block_ne {b t : Nat} (h : Vc w base e v n f) (hk : Kd w b t) (ht : t ≠ e) : ∀ k, v.ownBlock = some k → k ≠ b := by
  intro k hv
  rcases h.2 with ⟨rfl, _⟩ | ⟨g, cap, cur, rfl, _, hg, _⟩
  · simp [Value.ownBlock] at hv
  · simp [Value.ownBlock] at hv
    subst hv
    exact (Kd.ne hk ⟨cur, hg⟩ ht).symm
end

section
variable {P : Program}

/-- 'append(s, x...)', s an own slice, x whatever: one law for all sources. -/
theorem run_append_vc (w : World) (base : Nat) (t ty e : TypeId) (z : Value) (bytes : Nat) (ht : P.underlying t = some (.slice e)) (hinfo : (P.info? e).map (fun i => (i.zero, i.size, i.bytes)) = some (some z, 1, bytes)) (hz1 : z.cells = #[z])
    (v : Value) (n : Nat) (f : Nat → Value) (hown : Vc w base e v n f) (sp : Option Addr) (m c sb so : Nat) (g : Nat → Value) (hsp : 0 < m → sp = some ⟨sb, so, none⟩) (hsrc : Rd w sb so m g) (h1 : ∀ i, i < m → (g i).oneCell' = true)
    (h63 : n + m ≤ 1099511627776) (hby : bytes ≤ 64) (hbase : base ≤ w.heap.size) :
    ∃ v' w', (Builtin.append_ #[t, t] ty #[v, .slice sp m c]).run P w = .ok v' w' ∧ Vc w' base e v' (n + m) (fun i => if i < n then f i else g (i - n)) ∧ w.grownBy w' v.ownBlock := by
  obtain ⟨i, hi, hz, hs, hb⟩ := info_parts hinfo
  have hmap : (List.range (n + m)).map (fun i => if i < n then f i else g (i - n)) = (List.range n).map f ++ (List.range m).map g := by
    rw [List.range_add, List.map_append, List.map_map]
    congr 1
    · exact List.map_congr_left fun i hi => by simp at hi; simp [hi]
    · exact List.map_congr_left fun i _ => by simp [show ¬ n + i < n by omega]
  have hmax : (1099511627776 : Nat) ≤ maxLen := by unfold maxLen; omega
  have hbound : (n + m) * bytes ≤ 140737488355328 := by
    calc (n + m) * bytes ≤ 1099511627776 * 64 := Nat.mul_le_mul h63 hby
      _ ≤ 140737488355328 := by omega
  cases sp with
  | some ad =>
    have key : ∀ (ad : Addr), (∀ j u, ((List.range m).map g)[j]? = some u → w.cell? (ad.add j) = some u) →
        ∃ v' w', (Builtin.append_ #[t, t] ty #[v, .slice (some ad) m c]).run P w = .ok v' w' ∧ w'.ownsRow base e 1 v' (n + m) ((List.range n).map f ++ (List.range m).map g) ∧ w.grownBy w' v.ownBlock := by
      intro ad hc
      obtain ⟨v', w', hr, h2, h3, _⟩ := run_append_own (P := P) w base t ty e i z 1 bytes ht hi hz hs hb (by rw [hz1]; rfl) (by decide) v n _ hown ad m c ((List.range m).map g) (by simp) hc
        (fun u hu => by obtain ⟨j, hj, rfl⟩ := List.mem_map.1 hu; exact h1 j (by simpa using hj)) (Nat.le_trans h63 hmax) hbound hbase
      exact ⟨v', w', hr, h2, h3⟩
    obtain ⟨v', w', hr, h2, h3⟩ := key ad (fun j u hj => by
      by_cases hm : j < m
      · have := hsp (by omega)
        simp at this; subst this
        have hadd : (⟨sb, so, none⟩ : Addr).add j = ⟨sb, so + j, none⟩ := by unfold Addr.add; split <;> simp_all
        rw [hadd, hsrc j hm]
        simp [hm] at hj
        rw [hj]
      · simp [hm] at hj)
    exact ⟨v', w', hr, by unfold Vc; rw [hmap]; exact h2, h3⟩
  | none =>
    have hm : m = 0 := by
      rcases Nat.eq_zero_or_pos m with h | h
      · exact h
      · have := hsp h; simp at this
    subst hm
    refine ⟨v, w, ?_, hown.congr fun i hi => by simp [show i < n by omega], ⟨rfl, rfl, rfl, Nat.le_refl _, fun _ _ _ => rfl⟩⟩
    rcases hown.2 with ⟨rfl, rfl⟩ | ⟨g, cap, cur, rfl, _, hg, hn, _, hcs, _⟩
    · simp [Builtin.append_, run_underlying ht, sizeOf, typeInfo, hi, Builtin.lenOf, Builtin.firstCells]
    · simp [Builtin.append_, run_underlying ht, sizeOf, typeInfo, hi, Builtin.lenOf, Builtin.firstCells, storeCells, hn]

theorem wpList_append_vc {w : World} {ops : Array Oper} {rest : List Oper} {o : Oper} {a : Act} {Q : Exit → Act → World → Prop} (hgd : o.guard = none) (s x : Operand) (t : TypeId)
    (ho : o.op = .call { callee := .builtin .append, args := #[s, x], argTypes := #[t, t] })
    (base : Nat) (e : TypeId) (z : Value) (bytes : Nat) (ht : P.underlying t = some (.slice e)) (hinfo : (P.info? e).map (fun i => (i.zero, i.size, i.bytes)) = some (some z, 1, bytes)) (hz1 : z.cells = #[z])
    (v : Value) (n : Nat) (f : Nat → Value) (hs : a.eval s = v) (hown : Vc w base e v n f) (sp : Option Addr) (m c sb so : Nat) (g : Nat → Value) (hx : a.eval x = .slice sp m c) (hsp : 0 < m → sp = some ⟨sb, so, none⟩) (hsrc : Rd w sb so m g) (h1 : ∀ i, i < m → (g i).oneCell' = true)
    (h63 : n + m ≤ 1099511627776) (hby : bytes ≤ 64) (hbase : base ≤ w.heap.size)
    (h : ∀ v' w', Vc w' base e v' (n + m) (fun i => if i < n then f i else g (i - n)) → Upd (fun b => some b = v.ownBlock) w w' → wpList P ops Q rest (a.put o.dst v') w') : wpList P ops Q (o :: rest) a w := by
  refine wpList_plain hgd fun K hK => ?_
  obtain ⟨v', w', hr, h2, h3⟩ := run_append_vc (P := P) w base t o.type e z bytes ht hinfo hz1 v n f hown sp m c sb so g hsp hsrc h1 h63 hby hbase
  unfold Oper.wp execOp
  simp only [ho, resolve, invoke, builtin, Sem.run_bind, Sem.run_pure, Result.andThen_ok, List.map_toArray, List.map_cons, List.map_nil, hs, hx, hr]
  exact hK _ _ (h v' w' h2 (Upd.of_grown h3))

/-- 'append(s, x)': the one element lies in a block of its own. -/
theorem wpList_append_one {w : World} {ops : Array Oper} {rest : List Oper} {o : Oper} {a : Act} {Q : Exit → Act → World → Prop} (hgd : o.guard = none) (s x : Operand) (t : TypeId)
    (ho : o.op = .call { callee := .builtin .append, args := #[s, x], argTypes := #[t, t] })
    (base : Nat) (e : TypeId) (z : Value) (bytes : Nat) (ht : P.underlying t = some (.slice e)) (hinfo : (P.info? e).map (fun i => (i.zero, i.size, i.bytes)) = some (some z, 1, bytes)) (hz1 : z.cells = #[z])
    (v : Value) (n : Nat) (f : Nat → Value) (hs : a.eval s = v) (hown : Vc w base e v n f) (u : Value) (tu : TypeId) (hx : a.eval x = .slice (some ⟨w.heap.size, 0, none⟩) 1 1) (h1 : u.oneCell' = true)
    (h63 : n + 1 ≤ 1099511627776) (hby : bytes ≤ 64) (hbase : base ≤ w.heap.size)
    (h : ∀ v' w', Vc w' base e v' (n + 1) (fun i => if i < n then f i else u) → Upd (fun b => some b = v.ownBlock) w w' → wpList P ops Q rest (a.put o.dst v') w') : wpList P ops Q (o :: rest) a (w.alloc (.cells #[u] tu)) := by
  refine wpList_append_vc hgd s x t ho base e z bytes ht hinfo hz1 v n f hs (hown.alloc _) (some ⟨w.heap.size, 0, none⟩) 1 1 w.heap.size 0 (fun _ => u) hx (fun _ => rfl) ?_ (fun _ _ => h1) h63 hby (by rw [Deep.nblk_alloc]; omega) ?_
  · intro i hi
    have : i = 0 := by omega
    subst this
    simp only [World.cell?, Nat.zero_add, Deep.blk_alloc_new]
    simp
  · intro v' w' hv hu
    exact h v' w' hv (((Upd.refl _ w).alloc _).trans hu fun b hb _ => hb)
end

end Go.Proofs.YtgelingkifafeaaGreatDoor
