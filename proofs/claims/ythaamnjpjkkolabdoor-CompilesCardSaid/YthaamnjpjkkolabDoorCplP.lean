import Derived.Test.YthaamnjpjkkolabDoorCompQ
import Derived.Test.YthaamnjpjkkolabDoorRefRun
/- What the program that Compile makes loads and puts out, when it is run over shards of nine bytes. In plain words. -/
namespace Go.Proofs.YthaamnjpjkkolabDoor
open Lin Gf
set_option maxRecDepth 100000
set_option linter.unusedVariables false

theorem firstN_all {S : Nat → Stp} {here : Nat → Prop} {hs : Nat → Nat} {c : Nat} (hc : c ≤ 4096) : ∀ {n : Nat}, (∀ i, i < n → (S i).k.toNat = 0 → here (S i).b.toNat ∧ hs (S i).b.toNat = c) → LoadTo S here hs n ∧ (firstN S hs n = -1 ∨ firstN S hs n = c)
  | 0, _ => ⟨fun i hi => absurd hi (by omega), .inl rfl⟩
  | n + 1, h => by
    obtain ⟨h1, h2⟩ := firstN_all hc (n := n) fun i hi => h i (by omega)
    by_cases e : (S n).k.toNat = 0
    · have hn := h n (by omega) e
      have hfc : firstN S hs (n + 1) = c := by
        rw [firstN]
        by_cases e2 : firstN S hs n < 0
        · rw [if_pos ⟨e, e2⟩, hn.2]
        · rw [if_neg fun h => e2 h.2]
          rcases h2 with h2 | h2
          · omega
          · exact h2
      exact ⟨h1.next fun _ => ⟨hn.1, by rw [hfc, hn.2], by rw [hfc]; omega⟩, .inr hfc⟩
    · have hfc : firstN S hs (n + 1) = firstN S hs n := by rw [firstN, if_neg fun h => e h.1]
      exact ⟨h1.next fun h => absurd h e, by rw [hfc]; exact h2⟩
theorem firstN_some {S : Nat → Stp} {here : Nat → Prop} {hs : Nat → Nat} {c n i : Nat} (h : LoadTo S here hs n) (hi : i < n) (hk : (S i).k.toNat = 0) (hc : hs (S i).b.toNat = c) : firstN S hs n = c := by
  have h1 := (h i hi hk).2.1
  rw [hc] at h1
  rw [firstN_stays (k := i + 1) (by omega) (by omega), ← h1]

theorem getD_mem4 {P : List Stp} {i : Nat} (h : i < P.length) : P.getD i Sd ∈ P := by
  rw [List.getD_eq_getElem?_getD, List.getElem?_eq_getElem h]; exact List.getElem_mem h
theorem prog_load {D L N x i : Nat} (hi : i < (progL D L N x).length) (hk : ((progL D L N x).getD i Sd).k.toNat = 0) : ((progL D L N x).getD i Sd).b.toNat ∈ readL D L N x := by
  have hm := getD_mem4 hi
  generalize (progL D L N x).getD i Sd = s at *
  unfold progL at hm
  rcases List.mem_append.1 hm with hm | hm
  · obtain ⟨t, ht, rfl⟩ := List.mem_map.1 hm
    have ht' : t < (readL D L N x).length := by simpa using ht
    simp only [Int.toNat_natCast]
    exact getD_mem' ht'
  · obtain ⟨u, _, (⟨j, _, c, rfl⟩ | rfl)⟩ := mem_putsL hm
    · exact absurd hk (by simp)
    · exact absurd hk (by simp)
theorem prog_first {D L N x : Nat} (h : 0 < (readL D L N x).length) : 0 < (progL D L N x).length ∧ ((progL D L N x).getD 0 Sd).k.toNat = 0 := by
  unfold progL loadsL
  generalize readL D L N x = R at *
  obtain ⟨m, hm⟩ : ∃ m, R.length = m + 1 := ⟨R.length - 1, by omega⟩
  rw [hm, List.range_succ_eq_map]
  simp

theorem prog_run {D L N x : Nat} {T : Nat → Sl} {gone : Nat → Bool} (h : ∀ i ∈ readL D L N x, gone i = false ∧ (T i).n = 9) :
    LoadTo (fun t => (progL D L N x).getD t Sd) (hereG gone) (lenS T) (progL D L N x).length ∧ (0 < (readL D L N x).length → refN (fun t => (progL D L N x).getD t Sd) T (progL D L N x).length = 9) := by
  have h1 := (firstN_all (S := fun t => (progL D L N x).getD t Sd) (here := hereG gone) (hs := lenS T) (c := 9) (by omega) (n := (progL D L N x).length) fun i hi hk => h _ (prog_load hi hk)).1
  refine ⟨h1, fun h0 => ?_⟩
  obtain ⟨hl, hk⟩ := prog_first h0
  unfold refN
  rw [firstN_some h1 hl hk (h _ (prog_load hl hk)).2]
  rfl

theorem outs_at {sh : Nat → Nat → UInt8} {R l : List Nat} {D L j : Nat} (hj : j < l.length) : (outP sh R D L l).getD j Od = (((l.getD j 0 : Nat) : Int), fun t => dot R.length (fun q => sh (R.getD q 0) t) (byV D L R (l.getD j 0))) := by
  unfold outP
  rw [List.getD_eq_getElem?_getD, List.getElem?_map, List.getElem?_eq_getElem hj, List.getD_eq_getElem?_getD, List.getElem?_eq_getElem hj]
  rfl
theorem outs_same {D L G y : Nat} (h : ReadsOk D L G y (readsN D L (D + L + G) y)) {T : Nat → Sl} (X : Nat → Nat → UInt8) (hT : ∀ i ∈ readL D L (D + L + G) y, ∀ t, t < 9 → (T i).x t = encM D L X i t) {j : Nat} (hj : j < (lostL (D + L + G) y).length) :
    ∀ t, t < 9 → ((outP (refX T) (readL D L (D + L + G) y) D L (lostL (D + L + G) y)).getD j Od).2 t = encM D L X ((lostL (D + L + G) y).getD j 0) t := by
  intro t ht
  rw [outs_at hj]
  show dot _ _ _ = _
  have hm : (lostL (D + L + G) y).getD j 0 ∈ sel (D + L + G) y.testBit := getD_mem' hj
  have hsp : Sp (RL D (codeM D L) (readL D L (D + L + G) y)) (tr D (codeM D L) ((lostL (D + L + G) y).getD j 0)) := h.spans _ hm
  rw [← out_right X hsp t]
  exact dot_congr (fun q hq => hT _ (getD_mem' hq) t ht) fun _ _ => rfl

theorem sel_nth {n k : Nat} {p : Nat → Bool} (hk : k < n) (hp : p k = true) : (sel k p).length < (sel n p).length ∧ (sel n p).getD (sel k p).length 0 = k := by
  refine ⟨sel_hit hk hp, ?_⟩
  obtain ⟨t, ht⟩ := sel_prefix (p := p) (show k + 1 ≤ n from hk)
  rw [sel_succ, if_pos hp] at ht
  rw [← ht]
  simp [List.getD_eq_getElem?_getD]
end Go.Proofs.YthaamnjpjkkolabDoor
