import Derived.Test.YtgelingkifafeaaGreatDoorBu26
import Derived.Carry
/- recent.New. -/
namespace Go.Proofs.YtgelingkifafeaaGreatDoor
open Go Go.RowKit Go.Proofs Lin
set_option maxRecDepth 100000
set_option linter.unusedVariables false

/-- The cells of what keeps plans; a1, a2: the ring's head. -/
def kcell (n : Int) (mb : Nat) (key : Nat) (rg : Int) (sv a1 a2 : Value) : Nat → Value := fun i => ([I n, .map (some mb), U64 key, I rg, sv, a1, a2] : List Value).getD i (.bool false)

set_option maxHeartbeats 1000000 in
theorem keptNew_any (n : Int) (w : World) : Calls Tryz.prog 29 #[I n] w fun e w' => e = .returned (.pointer (some ⟨w.heap.size + 1, 0, none⟩)) ∧ Below w.heap.size w w' ∧ w'.heap.size = w.heap.size + 2 ∧
    Row w' (w.heap.size + 1) 0 7 (kcell n w.heap.size 0 0 (.slice none 0 0) (.pointer (some ⟨w.heap.size + 1, 2, none⟩)) (.pointer (some ⟨w.heap.size + 1, 2, none⟩))) ∧ w'.heap[w.heap.size]? = some (.map #[] 0) := by
  have hmk := run_makeMap (P := Tryz.prog) 137 w
  have HB := Lib.hid (((Below.refl w.heap.size w).alloc (Nat.le_refl _) (.map #[] 0)).alloc (by simp) (.cells #[I n, .map (some w.heap.size), U64 0, I 0, .slice none 0 0, .pointer none, .pointer none] 142))
  have HR := Lib.hid (show Row ((w.alloc (.map #[] 0)).alloc (.cells #[I n, .map (some w.heap.size), U64 0, I 0, .slice none 0 0, .pointer none, .pointer none] 142)) (w.heap.size + 1) 0 7 (kcell n w.heap.size 0 0 (.slice none 0 0) (.pointer none) (.pointer none)) from by
    have h := Row.lit (w.alloc (.map #[] 0)) #[I n, .map (some w.heap.size), U64 0, I 0, .slice none 0 0, .pointer none, .pointer none] 142
    rw [World.size_alloc] at h
    exact h.congr fun i hi => by match i, hi with | 0, _ | 1, _ | 2, _ | 3, _ | 4, _ | 5, _ | 6, _ => rfl)
  have HM := Lib.hid (show ((w.alloc (.map #[] 0)).alloc (.cells #[I n, .map (some w.heap.size), U64 0, I 0, .slice none 0 0, .pointer none, .pointer none] 142)).heap[w.heap.size]? = some (.map #[] 0) from by
    rw [Deep.blk_alloc_lt _ _ _ (by simp), Deep.blk_alloc_new])
  have hz : ((w.alloc (.map #[] 0)).alloc (.cells #[I n, .map (some w.heap.size), U64 0, I 0, .slice none 0 0, .pointer none, .pointer none] 142)).heap.size = w.heap.size + 2 := by simp
  go_enter Tryz.func29, Tryz.ntmps29
  go_upto_region 2 with fail
  generalize (w.alloc (.map #[] 0)).alloc (.cells #[I n, .map (some w.heap.size), U64 0, I 0, .slice none 0 0, .pointer none, .pointer none] 142) = w2 at *
  obtain ⟨we, hwe⟩ : ∃ V, V = w2.drew := ⟨_, rfl⟩
  replace HR := Lib.hid (show Row we _ _ _ _ from hwe ▸ HR.out.drew)
  replace HB := Lib.hid (show Below w.heap.size w we from hwe ▸ (HB.out.trans ((below_drew' w2).mono HB.out.size)))
  replace HM := Lib.hid (show we.heap[w.heap.size]? = some (.map #[] 0) from hwe ▸ HM.out)
  replace hz : we.heap.size = w.heap.size + 2 := hwe ▸ hz
  obtain ⟨κ, hnk, wB, hBB, HWB⟩ := upd_worlds (· = w.heap.size + 1) we
  obtain ⟨p0, hp0⟩ : ∃ p : Value, p = .pointer (some ⟨w.heap.size + 1, 2, none⟩) := ⟨_, rfl⟩
  obtain ⟨S, hS⟩ : ∃ S : (Nat → Bool) → World → Prop, ∀ L V, S L V ↔ (Upd (· = w.heap.size + 1) we V ∧ V.heap.size = we.heap.size ∧ Row V (w.heap.size + 1) 0 7 (kcell n w.heap.size 0 0 (.slice none 0 0) (if L 11 then p0 else .pointer none) (if L 15 then p0 else .pointer none))) := ⟨_, fun _ _ => Iff.rfl⟩
  have HS := Lib.hid hS
  have HSn := Lib.hid (fun j (h1 : j ≠ 11) (h2 : j ≠ 15) L V (h : S L V) => show S (setL j L) V from (hS _ _).2 (by have h := (hS _ _).1 h; rwa [setL_ne h1, setL_ne h2]))
  refine wp_region_I S mixed0 (by kernel_rfl) (by rw [← hwe]; exact (hS _ _).2 ⟨Upd.refl _ _, rfl, HR.out⟩) ?_
  clear hwe hS
  have HP0 := Lib.hid hp0
  clear hp0
  refine wpI_reads (C := fun V => ∃ n, V = wB n) 11 (by decide) rfl (fun L V h => HWB.out V ((HS.out _ _).1 h).1) (fun j h1 h2 => HSn.out j (by omega) (by omega)) ?_
  simp only [List.drop_zero, List.take_succ_cons, List.take_zero]
  repeat (go_big_quiet_step (fail))
  refine wpQuiet_nil ?_
  simp only [Nat.zero_add]
  refine wpI_eff rfl rfl undef ?_ ?_
  · intro L V hL _ hS
    obtain ⟨h1, h2, h3⟩ := (HS.out _ _).1 hS
    rw [hL] at h3
    have c0 : V.cell? ⟨w.heap.size + 1, 5, none⟩ = some (.pointer none) := h3.cell 5 (by omega)
    have f0 : V.frozen? ⟨w.heap.size + 1, 5, none⟩ = false := h3.free 5 (by omega)
    have H1 := Lib.hid h1
    have H2 := Lib.hid h2
    have H3 := Lib.hid h3
    clear h1 h2 h3 hS hL
    go_wp2_with fail
    refine (HS.out (setL 11 L) _).2 ⟨H1.out.trans ((Upd.refl (· = w.heap.size + 1) V).at1 5 _) (fun _ h _ => h), (World.size_setCell ..).trans H2.out, ?_⟩
    rw [setL_eq, setL_ne (by omega), HP0.out]
    have h := H3.out.set (i := 5) (by omega) (.pointer (some ⟨w.heap.size + 1, 2, none⟩))
    rw [Nat.zero_add] at h
    refine h.congr fun i hi => ?_
    rw [HP0.out]
    match i, hi with | 0, _ | 1, _ | 2, _ | 3, _ | 4, _ | 5, _ | 6, _ => rfl
  simp only [Act.put, List.setIfInBounds_toArray, List.set_cons_succ, List.set_cons_zero]
  refine wpI_reads (C := fun V => ∃ n, V = wB n) 3 (by decide) rfl (fun L V h => HWB.out V ((HS.out _ _).1 h).1) (fun j h1 h2 => HSn.out j (by omega) (by omega)) ?_
  simp only [List.drop_succ_cons, List.drop_zero, List.take_succ_cons, List.take_zero]
  repeat (go_big_quiet_step (fail))
  refine wpQuiet_nil ?_
  refine wpI_eff rfl rfl undef ?_ ?_
  · intro L V hL _ hS
    obtain ⟨h1, h2, h3⟩ := (HS.out _ _).1 hS
    rw [hL] at h3
    have c0 : V.cell? ⟨w.heap.size + 1, 6, none⟩ = some (.pointer none) := h3.cell 6 (by omega)
    have f0 : V.frozen? ⟨w.heap.size + 1, 6, none⟩ = false := h3.free 6 (by omega)
    have H1 := Lib.hid h1
    have H2 := Lib.hid h2
    have H3 := Lib.hid h3
    clear h1 h2 h3 hS hL
    go_wp2_with fail
    refine (HS.out (setL 15 L) _).2 ⟨H1.out.trans ((Upd.refl (· = w.heap.size + 1) V).at1 6 _) (fun _ h _ => h), (World.size_setCell ..).trans H2.out, ?_⟩
    rw [setL_eq, setL_ne (by omega), HP0.out]
    have h := H3.out.set (i := 6) (by omega) (.pointer (some ⟨w.heap.size + 1, 2, none⟩))
    rw [Nat.zero_add] at h
    refine h.congr fun i hi => ?_
    rw [HP0.out]
    match i, hi with | 0, _ | 1, _ | 2, _ | 3, _ | 4, _ | 5, _ | 6, _ => rfl
  simp only [Act.put, List.setIfInBounds_toArray, List.set_cons_succ, List.set_cons_zero]
  refine wpI_end (by decide) ?_
  intro L V hall hS
  obtain ⟨h1, h2, h3⟩ := (HS.out _ _).1 hS
  rw [hall 11 (by decide), hall 15 (by decide), HP0.out] at h3
  have H1 := Lib.hid h1
  have H2 := Lib.hid h2
  have H3 := Lib.hid h3
  clear h1 h2 h3 hS hall
  go_wp2_with fail
  go_ret
  refine ⟨rfl, Below.upd HB.out H1.out (fun _ h => by omega) HB.out.size, H2.out.trans hz, H3.out.congr fun i hi => rfl, ?_⟩
  rw [H1.out.block _ (by omega) (by omega)]; exact HM.out
end Go.Proofs.YtgelingkifafeaaGreatDoor
