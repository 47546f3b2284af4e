import Derived.Test.YthaamnjpjkkolabDoorStep
/- The law's program; the reference's Check. -/
namespace Go.Proofs.YthaamnjpjkkolabDoor
open Go.RowKit Go.Proofs
set_option maxRecDepth 100000
set_option linter.unusedVariables false

/-- An own slice of n elements of four cells. -/
def V4 (w : World) (base e : Nat) (v : Value) (n : Nat) (f : Nat → Nat → Value) : Prop := w.ownsRow base e 4 v n ((List.range (n * 4)).map (el4 f))

section
variable {w w' : World} {base e n : Nat} {v : Value} {f g : Nat → Nat → Value}
theorem V4.nil (w : World) (base e : Nat) (f : Nat → Nat → Value) : V4 w base e (.slice none 0 0) 0 f := World.ownsRow_nil w base e 4
theorem V4.lt (h : V4 w base e v n f) : ∀ k, v.ownBlock = some k → base ≤ k ∧ k < w.heap.size := World.ownsRow.lt h
theorem V4.congr (h : V4 w base e v n f) (hfg : ∀ i, i < n → ∀ j, j < 4 → f i j = g i j) : V4 w base e v n g := by
  unfold V4 at *
  rwa [show (List.range (n * 4)).map (el4 g) = (List.range (n * 4)).map (el4 f) from List.map_congr_left fun i hi => by
    have : i < n * 4 := by simpa using hi
    exact (hfg (i / 4) (by omega) (i % 4) (by omega)).symm]
theorem V4.kept {G : Nat → Prop} (h : V4 w base e v n f) (hu : Upd G w w') (hne : ∀ k, v.ownBlock = some k → ¬ G k) : V4 w' base e v n f := by
  refine ⟨h.1, ?_⟩
  rcases h.2 with hn | ⟨g, cap, cur, rfl, hb, hg, rest⟩
  · exact .inl hn
  · exact .inr ⟨g, cap, cur, rfl, hb, by rw [hu.block g (Array.getElem?_eq_some_iff.1 hg).1 (hne g rfl)]; exact hg, rest⟩
theorem V4.alloc (h : V4 w base e v n f) (o : Obj) : V4 (w.alloc o) base e v n f := World.ownsRow.alloc h o
theorem V4.later (h : V4 w base e v n f) (hb : Below w.heap.size w w') : V4 w' base e v n f := h.kept (Upd.of_below hb) (fun _ _ => id)
theorem V4.block_ne {b t : Nat} (h : V4 w base e v n f) (hk : Kd w b t) (ht : t ≠ e) : ∀ k, v.ownBlock = some k → k ≠ b := by
  intro k hv
  rcases h.2 with ⟨rfl, _⟩ | ⟨g, cap, cur, rfl, _, hg, _⟩
  · simp [Value.ownBlock] at hv
  · simp [Value.ownBlock] at hv
    subst hv
    exact (Kd.ne hk ⟨cur, hg⟩ ht).symm
/-- What such a slice is, as the walk sees it. -/
theorem V4.shape (h : V4 w base e v n f) : ∃ a b c, v = .slice a n c ∧ Stps w a b 0 n c f ∧ (∀ k, v.ownBlock = some k → k = b) ∧ (0 < n → base ≤ b) := by
  obtain ⟨hl, h⟩ := h
  rcases h with ⟨rfl, rfl⟩ | ⟨g, cap, cur, rfl, hb, hg, hn', hm, hs, ht⟩
  · exact ⟨none, 0, 0, rfl, ⟨fun h => absurd h (by omega), Rd.empty _ _ _ _, Nat.le_refl _, by omega⟩, by simp [Value.ownBlock], fun h => absurd h (by omega)⟩
  · refine ⟨_, g, cap, rfl, ⟨fun _ => rfl, fun i hi => ?_, hn', by unfold maxLen at hm; omega⟩, by simp [Value.ownBlock], fun _ => hb⟩
    simp only [World.cell?, hg, Nat.zero_add]
    have : cur.toList[i]? = some (el4 f i) := by
      have e2 : (cur.toList.take (n * 4))[i]? = ((List.range (n * 4)).map (el4 f))[i]? := by rw [ht]
      rw [List.getElem?_take, if_pos (by omega)] at e2
      rw [e2]; simp [hi]
    simpa using this
end

theorem addr_add (b o j : Nat) : (⟨b, o, none⟩ : Addr).add j = ⟨b, o + j, none⟩ := by unfold Addr.add; split <;> simp_all
theorem cell_new (w : World) (c : Array Value) (t j : Nat) : (w.alloc (.cells c t)).cell? ⟨w.heap.size, j, none⟩ = c[j]? := by
  unfold World.cell?; rw [Deep.blk_alloc_new]; simp
theorem frozen_new (w : World) (c : Array Value) (t j : Nat) : (w.alloc (.cells c t)).frozen? ⟨w.heap.size, j, none⟩ = false := by
  unfold World.frozen?; rw [Deep.blk_alloc_new]; simp

section
variable {P : Program}
/-- 'append(s, x)', x of four cells: they lie in a block of their own. -/
theorem wpList_append_four {w : World} {ops : Array Oper} {rest : List Oper} {o : Oper} {a : Act} {Q : Exit → Act → World → Prop} (hgd : o.guard = none) (s x : Operand) (t : TypeId)
    (ho : o.op = .call { callee := .builtin .append, args := #[s, x], argTypes := #[t, t] })
    (base : Nat) (e : TypeId) (z : Value) (bytes : Nat) (ht : P.underlying t = some (.slice e)) (hinfo : (P.info? e).map (fun i => (i.zero, i.size, i.bytes)) = some (some z, 4, bytes)) (hz1 : z.cells.size = 4)
    (v : Value) (n : Nat) (f : Nat → Nat → Value) (hs : a.eval s = v) (hown : V4 w base e v n f) (u : Nat → Value) (tu : TypeId) (hx : a.eval x = .slice (some ⟨w.heap.size, 0, none⟩) 1 1) (h1 : ∀ j, j < 4 → (u j).oneCell' = true)
    (h63 : n + 1 ≤ 1099511627776) (hby : bytes ≤ 64) (hbase : base ≤ w.heap.size)
    (h : ∀ v' w', V4 w' base e v' (n + 1) (fun i => if i < n then f i else u) → Upd (fun b => some b = v.ownBlock) w w' → wpList P ops Q rest (a.put o.dst v') w') : wpList P ops Q (o :: rest) a (w.alloc (.cells #[u 0, u 1, u 2, u 3] tu)) := by
  obtain ⟨i, hi, hz, hsz, hb⟩ := info_parts hinfo
  refine wpList_append_own _ hgd s x t ho base e i z 4 bytes ht hi hz hsz hb hz1 (by decide) v n _ hs (hown.alloc _) ⟨w.heap.size, 0, none⟩ 1 1 [u 0, u 1, u 2, u 3] hx rfl ?_ ?_ (by unfold maxLen; omega) ?_ (by rw [Deep.nblk_alloc]; omega) ?_
  · intro j v hj
    match j, hj with
    | 0, hj => simp at hj; subst hj; rw [addr_add, cell_new]; simp
    | 1, hj => simp at hj; subst hj; rw [addr_add, cell_new]; simp
    | 2, hj => simp at hj; subst hj; rw [addr_add, cell_new]; simp
    | 3, hj => simp at hj; subst hj; rw [addr_add, cell_new]; simp
    | j + 4, hj => simp at hj
  · intro v hv
    simp at hv
    rcases hv with rfl | rfl | rfl | rfl <;> exact h1 _ (by omega)
  · calc (n + 1) * bytes ≤ 1099511627776 * 64 := Nat.mul_le_mul h63 hby
      _ ≤ _ := by omega
  · intro v' w' hv hg _
    have hmap : (List.range ((n + 1) * 4)).map (el4 fun i => if i < n then f i else u) = (List.range (n * 4)).map (el4 f) ++ [u 0, u 1, u 2, u 3] := by
      rw [show (n + 1) * 4 = n * 4 + 4 by omega, List.range_add, List.map_append]
      congr 1
      · refine List.map_congr_left fun i hi => ?_
        have : i < n * 4 := by simpa using hi
        show (if i / 4 < n then f (i / 4) else u) (i % 4) = f (i / 4) (i % 4)
        rw [if_pos (by omega)]
      · have key : ∀ j, j < 4 → el4 (fun i => if i < n then f i else u) (n * 4 + j) = u j := fun j hj => by
          rw [el4_at _ _ _ hj, if_neg (by omega)]
        simp [List.range_succ, key]
        have := key 0 (by omega)
        simpa using this
    refine h v' w' (by unfold V4; rw [hmap]; exact hv) ?_
    exact ((Upd.refl _ w).alloc _).trans (Upd.of_grown hg) fun b hb _ => hb
end

theorem infoRS : (Tryd.prog.info? 86).map (fun i => (i.zero, i.size, i.bytes)) = some (some (.agg #[.int .i64 0, .int .i64 0, .int .i64 0, .int .u8 0]), 4, 32) := by kernel_rfl

/-- Two cells of a block. -/
structure Pair (w : World) (b t : Nat) (x y : Value) : Prop where
  c0 : w.cell? ⟨b, 0, none⟩ = some x
  c1 : w.cell? ⟨b, 1, none⟩ = some y
  f0 : w.frozen? ⟨b, 0, none⟩ = false
  f1 : w.frozen? ⟨b, 1, none⟩ = false
  kd : Kd w b t
theorem Pair.new (w : World) (t : Nat) (x y : Value) : Pair (w.alloc (.cells #[x, y] t)) w.heap.size t x y :=
  ⟨by rw [cell_new]; rfl, by rw [cell_new]; rfl, frozen_new _ _ _ _, frozen_new _ _ _ _, Kd.new _ _ _⟩
theorem Pair.of_block {w w' : World} {b t : Nat} {x y : Value} (h : Pair w b t x y) (e : w'.heap[b]? = w.heap[b]?) : Pair w' b t x y :=
  ⟨(World.cell?_of_block (a := ⟨b, 0, none⟩) e).trans h.c0, (World.cell?_of_block (a := ⟨b, 1, none⟩) e).trans h.c1, (World.frozen?_of_block (a := ⟨b, 0, none⟩) e).trans h.f0, (World.frozen?_of_block (a := ⟨b, 1, none⟩) e).trans h.f1, h.kd.of_block e⟩
theorem Pair.upd {w w' : World} {G : Nat → Prop} {b t : Nat} {x y : Value} (h : Pair w b t x y) (hu : Upd G w w') (hg : ¬ G b) : Pair w' b t x y := h.of_block (hu.block b h.kd.lt hg)
theorem Pair.later {w w' : World} {b t : Nat} {x y : Value} (h : Pair w b t x y) (hb : Below w.heap.size w w') : Pair w' b t x y := h.of_block (hb.block b h.kd.lt)
theorem Pair.alloc {w : World} {b t : Nat} {x y : Value} (h : Pair w b t x y) (o : Obj) : Pair (w.alloc o) b t x y := h.of_block (Deep.blk_alloc_lt _ _ _ h.kd.lt)
theorem Pair.set1 {w : World} {b t : Nat} {x y : Value} (h : Pair w b t x y) (v : Value) : Pair (w.setCell ⟨b, 1, none⟩ v) b t x v :=
  ⟨by rw [cell_set_off (by omega)]; exact h.c0, cell_set_same h.c1 v, by rw [frozen_set]; exact h.f0, by rw [frozen_set]; exact h.f1, h.kd.set _ _⟩

/-- The law's program, in the making. -/
structure Progd (w wr : World) (k : Nat) (S : Nat → Stp) (regs : Int) (a : Option Addr) (n c : Nat) (v : Value) : Prop where
  below : Below w.heap.size w wr
  par : Pair wr w.heap.size 39 (I regs) (.slice a n c)
  res : Pair wr (w.heap.size + 1) 51 (I 0) (.slice none 0 0)
  out : Pair wr (w.heap.size + 2) 51 (I regs) v
  vs : V4 wr w.heap.size 86 v k (fun i => rc (S i))
theorem Progd.start (w : World) (S : Nat → Stp) (regs : Int) (a : Option Addr) (n c : Nat) :
    Progd w (((w.alloc (.cells #[I regs, .slice a n c] 39)).alloc (.cells #[I 0, .slice none 0 0] 51)).alloc (.cells #[I regs, .slice none 0 0] 51)) 0 S regs a n c (.slice none 0 0) := by
  have e1 : (w.alloc (.cells #[I regs, .slice a n c] 39)).heap.size = w.heap.size + 1 := Deep.nblk_alloc _ _
  have e2 : ((w.alloc (.cells #[I regs, .slice a n c] 39)).alloc (.cells #[I 0, .slice none 0 0] 51)).heap.size = w.heap.size + 2 := by rw [Deep.nblk_alloc, e1]
  exact ⟨(((Below.refl _ _).alloc (Nat.le_refl _) _).alloc (by omega) _).alloc (by omega) _, ((Pair.new w _ _ _).alloc _).alloc _, e1 ▸ (Pair.new _ _ _ _).alloc _, e2 ▸ Pair.new _ _ _ _, V4.nil _ _ _ _⟩
theorem Progd.next {w wr w3 : World} {k : Nat} {S : Nat → Stp} {regs : Int} {a : Option Addr} {n c : Nat} {v v3 : Value} (h : Progd w wr k S regs a n c v) {o : Obj}
    (hv : V4 w3 w.heap.size 86 v3 (k + 1) (fun i => if i < k then rc (S i) else rc (S k))) (hu : Upd (fun b => some b = v.ownBlock) (wr.alloc o) w3) :
    Progd w (w3.setCell ⟨w.heap.size + 2, 1, none⟩ v3) (k + 1) S regs a n c v3 ∧ w3.cell? ⟨w.heap.size + 2, 1, none⟩ = some v ∧ w3.frozen? ⟨w.heap.size + 2, 1, none⟩ = false := by
  have hne : ∀ {b t x y}, Pair wr b t x y → t ≠ 86 → ¬ some b = v.ownBlock := fun hp ht e => h.vs.block_ne hp.kd ht _ e.symm rfl
  have hp := (h.par.alloc o).upd hu (hne h.par (by decide))
  have hr := (h.res.alloc o).upd hu (hne h.res (by decide))
  have ho := (h.out.alloc o).upd hu (hne h.out (by decide))
  have hs := h.below.size
  have hU : Upd (fun b => b = w.heap.size + 2) w3 (w3.setCell ⟨w.heap.size + 2, 1, none⟩ v3) := (Upd.refl (fun b => b = w.heap.size + 2) w3).setCell (a := ⟨w.heap.size + 2, 1, none⟩) (fun _ => rfl) v3
  refine ⟨⟨?_, hp.upd hU (by omega), hr.upd hU (by omega), ho.set1 v3, ?_⟩, ho.c1, ho.f1⟩
  · refine Below.upd (Below.upd (h.below.alloc hs o) hu (fun b e => (h.vs.lt b e.symm).1) (by rw [Deep.nblk_alloc]; omega)) hU (fun b e => by omega) ?_
    have := hu.size; rw [Deep.nblk_alloc] at this; omega
  · refine (hv.kept hU fun t ht e => ?_).congr fun i hi j _ => ?_
    · exact hv.block_ne ho.kd (by decide) t ht e
    · by_cases e : i < k
      · rw [if_pos e]
      · rw [if_neg e, show i = k by omega]

def ProgIs (w : World) (n : Nat) (S : Nat → Stp) (regs : Int) (e : Ending) (w' : World) : Prop :=
  ∃ v, e = .returned (.agg #[I regs, v]) ∧ Below w.heap.size w w' ∧ V4 w' w.heap.size 86 v n (fun i => rc (S i))

set_option maxHeartbeats 1000000 in
theorem program_any (a : Option Addr) (b o n c : Nat) (S : Nat → Stp) (regs : Int) (w : World) (h : Stps w a b o n c fun i => sc (S i)) (hn : n ≤ 5000) :
    Calls Tryd.prog 18 #[.agg #[I regs, .slice a n c]] w (ProgIs w n S regs) := by
  have HS := Lib.hid h
  have hcap := h.cap; have hmax := h.max
  clear h
  have HP0 := Lib.hid (Progd.start w S regs a n c)
  go_enter Tryd.func18, Tryd.ntmps18
  go_wp2_with fail
  go_loopg [4] n (fun g i wr => ∃ (k : Nat) (v : Value), g = n - k ∧ k ≤ n ∧ i = I k ∧ Progd w wr k S regs a n c v)
  case atStart => exact ⟨0, _, rfl, by omega, rfl, HP0.out⟩
  case round =>
    obtain ⟨k, v, rfl, hk, rfl, hp⟩ := hrel
    obtain ⟨va, vb, vc, rfl, hsh⟩ := hp.vs.shape
    have HSH := Lib.hid hsh
    clear hsh
    have HP := Lib.hid hp
    clear HP0
    have p0 := hp.par.c0
    have p1 := hp.par.c1
    have q1 := hp.out.c1
    have g1 := hp.out.f1
    have hsz : w.heap.size + 2 < wr.heap.size := hp.out.kd.lt
    clear hp
    by_cases hlt : k < n
    · obtain rfl := HS.out.addr (by omega)
      have hat := (HS.out.later HP.out.below).rd.at4 hlt
      have c0 : wr.cell? ⟨b, o + k * 4, none⟩ = some (B (S k).k) := hat.c0
      have c1 : wr.cell? ⟨b, o + k * 4 + 1, none⟩ = some (I (S k).a) := hat.c1
      have c2 : wr.cell? ⟨b, o + k * 4 + 2, none⟩ = some (I (S k).b) := hat.c2
      have c3 : wr.cell? ⟨b, o + k * 4 + 3, none⟩ = some (B (S k).c) := hat.c3
      clear hat
      have HV := Lib.hid (HP.out.vs.alloc (.cells #[B (S k).k, I (S k).a, I (S k).b, B (S k).c] 84))
      have hq2 : (wr.alloc (.cells #[B (S k).k, I (S k).a, I (S k).b, B (S k).c] 84)).cell? ⟨w.heap.size + 1 + 1, 1, none⟩ = some (.slice va k vc) := (HP.out.out.alloc _).c1
      have s0 : (wr.alloc (.cells #[B (S k).k, I (S k).a, I (S k).b, B (S k).c] 84)).cell? ⟨wr.heap.size, 0, none⟩ = some (B (S k).k) := by rw [cell_new]; rfl
      have s1 : (wr.alloc (.cells #[B (S k).k, I (S k).a, I (S k).b, B (S k).c] 84)).cell? ⟨wr.heap.size, 1, none⟩ = some (I (S k).a) := by rw [cell_new]; rfl
      have s2 : (wr.alloc (.cells #[B (S k).k, I (S k).a, I (S k).b, B (S k).c] 84)).cell? ⟨wr.heap.size, 2, none⟩ = some (I (S k).b) := by rw [cell_new]; rfl
      have s3 : (wr.alloc (.cells #[B (S k).k, I (S k).a, I (S k).b, B (S k).c] 84)).cell? ⟨wr.heap.size, 3, none⟩ = some (B (S k).c) := by rw [cell_new]; rfl
      have hsz2 : w.heap.size ≤ (wr.alloc (.cells #[B (S k).k, I (S k).a, I (S k).b, B (S k).c] 84)).heap.size := by rw [Deep.nblk_alloc]; omega
      have HX := Lib.hid (fun v3 w3 => HP.out.next (v3 := v3) (w3 := w3) (o := .cells #[B (S k).k, I (S k).a, I (S k).b, B (S k).c] 84))
      go_upto_region 6 with fail
      clear p0 p1 q1 g1
      generalize wr.alloc (.cells #[B (S k).k, I (S k).a, I (S k).b, B (S k).c] 84) = W2 at *
      have hkk : (S k).k.toNat < 256 := (S k).k.toNat_lt
      have hkk0 : (0 : Int) ≤ ((S k).k.toNat : Int) := Int.natCast_nonneg _
      go_wp2_with (refine wpList_append_four rfl (.tmp 26) (.tmp 37) 49 rfl w.heap.size 86 (.agg #[.int .i64 0, .int .i64 0, .int .i64 0, .int .u8 0]) 32 Tryd.underlying49 infoRS rfl (.slice va k vc) k _ rfl HV.out (rc (S k)) 86 rfl (fun j hj => by rcases (show j = 0 ∨ j = 1 ∨ j = 2 ∨ j = 3 by omega) with rfl | rfl | rfl | rfl <;> rfl) (by omega) (by omega) hsz2 ?_; intro v3 w3 hv3 hu3; have HN := Lib.hid (HX.out v3 w3 hv3 hu3); obtain ⟨va3, vb3, vc3, rfl, _⟩ := hv3.shape; have n1 : w3.cell? ⟨w.heap.size + 1 + 1, 1, none⟩ = some (.slice va k vc) := HN.out.2.1; have n2 : w3.frozen? ⟨w.heap.size + 1 + 1, 1, none⟩ = false := HN.out.2.2; clear hv3 hu3)
      go_roundg (n - (k + 1))
      case measure => omega
      case rel => exact ⟨k + 1, _, rfl, by omega, by go_num, HN.out.1⟩
    · obtain rfl : n = k := by omega
      clear hcap
      have r0 := HP.out.res.c0
      have r1 := HP.out.res.c1
      have r2 := HP.out.res.f0
      have r3 := HP.out.res.f1
      have o0 := HP.out.out.c0
      have HB := Lib.hid HP.out.below
      have HU := Lib.hid (((Upd.refl (fun b => b = w.heap.size + 1) wr).setCell (a := ⟨w.heap.size + 1, 0, none⟩) (fun _ => rfl) (.int .i64 regs)).setCell (a := ⟨w.heap.size + 1, 1, none⟩) (fun _ => rfl) (.slice va n vc))
      have HV := Lib.hid (HP.out.vs.kept HU.out fun t ht => HP.out.vs.block_ne HP.out.res.kd (by decide) t ht)
      go_wp2_with fail
      have t0 : (wr.setCell ⟨w.heap.size + 1, 0, none⟩ (.int .i64 regs)).cell? ⟨w.heap.size + 1, 0, none⟩ = some (.int .i64 regs) := cell_set_same r0 _
      have t1 : ((wr.setCell ⟨w.heap.size + 1, 0, none⟩ (.int .i64 regs)).setCell ⟨w.heap.size + 1, 1, none⟩ (.slice va n vc)).cell? ⟨w.heap.size + 1, 1, none⟩ = some (.slice va n vc) := cell_set_same (by rw [cell_set_off (by omega)]; exact r1) _
      clear p0 p1 q1 g1 r0 r1 r2 r3 o0
      exact bodyPost_ret (v := .agg #[I regs, .slice va n vc]) (by simp [results, Tryd.results18, go_sem, t0, t1]) rfl ⟨_, rfl, Below.upd HB.out HU.out (fun b e => by omega) HB.out.size, HV.out⟩
end Go.Proofs.YthaamnjpjkkolabDoor
