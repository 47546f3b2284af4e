import Derived.Test.YtgelingkifafeaaGreatDoorBu04
import Derived.Test.YtgelingkifafeaaGreatDoorBu06
/- Own slices of elements of so many cells, told by the index. -/
namespace Go.Proofs.YtgelingkifafeaaGreatDoor
open Go.RowKit Go.Proofs
set_option maxRecDepth 100000
set_option linter.unusedVariables false

/-- An own slice of n elements of z cells. -/
def Vz (w : World) (base e z : Nat) (v : Value) (n : Nat) (f : Nat → Nat → Value) : Prop := w.ownsRow base e z v n ((List.range (n * z)).map (elz z f))

section
variable {w w' : World} {base e z n : Nat} {v : Value} {f g : Nat → Nat → Value}
theorem Vz.nil (w : World) (base e z : Nat) (f : Nat → Nat → Value) : Vz w base e z (.slice none 0 0) 0 f := by
  have := World.ownsRow_nil w base e z
  unfold Vz; rwa [Nat.zero_mul]
theorem Vz.lt (h : Vz w base e z v n f) : ∀ k, v.ownBlock = some k → base ≤ k ∧ k < w.heap.size := World.ownsRow.lt h
theorem Vz.congr (h : Vz w base e z v n f) (hfg : ∀ i, i < n → ∀ j, j < z → f i j = g i j) : Vz w base e z v n g := by
  unfold Vz at *
  rwa [show (List.range (n * z)).map (elz z g) = (List.range (n * z)).map (elz z f) from List.map_congr_left fun i hi => by
    have hi' : i < n * z := by simpa using hi
    have hz : 0 < z := by
      rcases Nat.eq_zero_or_pos z with h0 | h0
      · subst h0; simp at hi'
      · exact h0
    exact (hfg (i / z) (Nat.div_lt_of_lt_mul (by rwa [Nat.mul_comm])) (i % z) (Nat.mod_lt _ hz)).symm]
theorem Vz.kept {G : Nat → Prop} (h : Vz w base e z v n f) (hu : Upd G w w') (hne : ∀ k, v.ownBlock = some k → ¬ G k) : Vz w' base e z v n f := by
  refine ⟨h.1, ?_⟩
  rcases h.2 with hn | ⟨g, cap, cur, rfl, hb, hg, rest⟩
  · exact .inl hn
  · exact .inr ⟨g, cap, cur, rfl, hb, by rw [hu.block g (Array.getElem?_eq_some_iff.1 hg).1 (hne g rfl)]; exact hg, rest⟩
theorem Vz.alloc (h : Vz w base e z v n f) (o : Obj) : Vz (w.alloc o) base e z v n f := World.ownsRow.alloc h o
theorem Vz.later (h : Vz w base e z v n f) (hb : Below w.heap.size w w') : Vz w' base e z v n f := h.kept (Upd.of_below hb) (fun _ _ => id)
theorem Vz.drewN (h : Vz w base e z v n f) (k : Nat) : Vz (w.drewN k) base e z v n f := h
theorem Vz.block_ne {b t : Nat} (h : Vz w base e z v n f) (hk : Kd w b t) (ht : t ≠ e) : ∀ k, v.ownBlock = some k → k ≠ b := by
  intro k hv
  rcases h.2 with ⟨rfl, _⟩ | ⟨g, cap, cur, rfl, _, hg, _⟩
  · simp [Value.ownBlock] at hv
  · simp [Value.ownBlock] at hv
    subst hv
    exact (Kd.ne hk ⟨cur, hg⟩ ht).symm

/-- Elements of z cells that lie in memory. -/
structure Els (w : World) (a : Option Addr) (b o z n c : Nat) (f : Nat → Nat → Value) : Prop where
  addr : 0 < n → a = some ⟨b, o, none⟩
  rd : Rd w b o (n * z) (elz z f)
  cap : n ≤ c
  max : c ≤ 9223372036854775807
theorem Els.later {a : Option Addr} {b o c : Nat} (h : Els w a b o z n c f) (hb : Below w.heap.size w w') : Els w' a b o z n c f := ⟨h.addr, h.rd.later hb, h.cap, h.max⟩
theorem Els.upd {G : Nat → Prop} {a : Option Addr} {b o c : Nat} (h : Els w a b o z n c f) (hu : Upd G w w') (hg : 0 < n * z → ¬ G b) : Els w' a b o z n c f := ⟨h.addr, h.rd.upd hu hg, h.cap, h.max⟩
theorem Els.at {a : Option Addr} {b o c : Nat} (h : Els w a b o z n c f) {k j : Nat} (hk : k < n) (hj : j < z) : w.cell? ⟨b, o + (k * z + j), none⟩ = some (f k j) := by
  rw [h.rd (k * z + j) (mul_add_lt hk hj), elz_at _ _ _ hj]

/-- What such a slice is, as the walk sees it. -/
theorem Vz.shape (h : Vz w base e z v n f) : ∃ a b c, v = .slice a n c ∧ Els w a b 0 z n c f ∧ (∀ k, v.ownBlock = some k → k = b) ∧ (0 < n → base ≤ b) ∧ (v.ownBlock = none → v = .slice none 0 0) := by
  obtain ⟨hl, h⟩ := h
  rcases h with ⟨rfl, rfl⟩ | ⟨g, cap, cur, rfl, hb, hg, hn', hm, hs, ht⟩
  · exact ⟨none, 0, 0, rfl, ⟨fun h => absurd h (by omega), by rw [Nat.zero_mul]; exact Rd.empty _ _ _ _, Nat.le_refl _, by omega⟩, by simp [Value.ownBlock], fun h => absurd h (by omega), fun _ => rfl⟩
  · refine ⟨_, g, cap, rfl, ⟨fun _ => rfl, fun i hi => ?_, hn', by unfold maxLen at hm; omega⟩, by simp [Value.ownBlock], fun _ => hb, by simp [Value.ownBlock]⟩
    simp only [World.cell?, hg, Nat.zero_add]
    have : cur.toList[i]? = some (elz z f i) := by
      have e2 : (cur.toList.take (n * z))[i]? = ((List.range (n * z)).map (elz z f))[i]? := by rw [ht]
      rw [List.getElem?_take, if_pos (by omega)] at e2
      rw [e2]; simp [hi]
    simpa using this
end

section
variable {P : Program}
/-- 'append(s, x)', x of z cells: they lie in a block of their own. -/
theorem wpList_append_z {w : World} {ops : Array Oper} {rest : List Oper} {o : Oper} {a : Act} {Q : Exit → Act → World → Prop} (hgd : o.guard = none) (s x : Operand) (t : TypeId)
    (ho : o.op = .call { callee := .builtin .append, args := #[s, x], argTypes := #[t, t] })
    (base : Nat) (e : TypeId) (zr : Value) (z bytes : Nat) (ht : P.underlying t = some (.slice e)) (hinfo : (P.info? e).map (fun i => (i.zero, i.size, i.bytes)) = some (some zr, z, bytes)) (hz1 : zr.cells.size = z) (hz0 : 0 < z)
    (v : Value) (n : Nat) (f : Nat → Nat → Value) (hs : a.eval s = v) (hown : Vz w base e z v n f) (u : Array Value) (hu : u.size = z) (tu : TypeId) (hx : a.eval x = .slice (some ⟨w.heap.size, 0, none⟩) 1 1) (h1 : ∀ y ∈ u.toList, y.oneCell' = true)
    (h63 : n + 1 ≤ 1099511627776) (hby : bytes ≤ 64) (hbase : base ≤ w.heap.size)
    (h : ∀ v' w', Vz w' base e z v' (n + 1) (fun i j => if i < n then f i j else u.getD j (.bool false)) → Upd (fun b => some b = v.ownBlock) w w' → wpList P ops Q rest (a.put o.dst v') w') : wpList P ops Q (o :: rest) a (w.alloc (.cells u tu)) := by
  obtain ⟨i, hi, hz, hsz, hb⟩ := info_parts hinfo
  refine wpList_append_own _ hgd s x t ho base e i zr z bytes ht hi hz hsz hb hz1 hz0 v n _ hs (hown.alloc _) ⟨w.heap.size, 0, none⟩ 1 1 u.toList hx (by simpa using hu) ?_ h1 (by unfold maxLen; omega) ?_ (by rw [Deep.nblk_alloc]; omega) ?_
  · intro j y hj
    rw [addr_add, cell_new, Nat.zero_add]; simpa using hj
  · calc (n + 1) * bytes ≤ 1099511627776 * 64 := Nat.mul_le_mul h63 hby
      _ ≤ _ := by omega
  · intro v' w' hv hg _
    have hmap : (List.range ((n + 1) * z)).map (elz z fun i j => if i < n then f i j else u.getD j (.bool false)) = (List.range (n * z)).map (elz z f) ++ u.toList := by
      rw [show (n + 1) * z = n * z + z by rw [Nat.add_mul]; omega, List.range_add, List.map_append]
      congr 1
      · refine List.map_congr_left fun i hi => ?_
        have hi' : i < n * z := by simpa using hi
        show (if i / z < n then f (i / z) (i % z) else _) = f (i / z) (i % z)
        rw [if_pos (Nat.div_lt_of_lt_mul (by rwa [Nat.mul_comm]))]
      · refine List.ext_getElem? fun j => ?_
        by_cases hj : j < z
        · have h2 : j < u.size := by omega
          simp [hj, elz_at, h2]
        · simp [hj, show u.size ≤ j by omega]
    refine h v' w' (by unfold Vz; rw [hmap]; exact hv) ?_
    exact ((Upd.refl _ w).alloc _).trans (Upd.of_grown hg) fun b hb _ => hb
end
end Go.Proofs.YtgelingkifafeaaGreatDoor
