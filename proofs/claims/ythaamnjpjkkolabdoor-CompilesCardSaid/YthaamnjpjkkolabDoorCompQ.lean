import Derived.Test.YthaamnjpjkkolabDoorCompP
import Derived.Test.YthaamnjpjkkolabDoorRunS
import Derived.Test.YthaamnjpjkkolabDoorMaEnc
/- The program that is compiled, in plain words: what it loads, what it puts out. -/
namespace Go.Proofs.YthaamnjpjkkolabDoor
open Lin Gf
set_option maxRecDepth 100000
set_option linter.unusedVariables false

abbrev Sd : Stp := ⟨0, 0, 0, 0⟩
def addsL (reg n : Nat) (y : Vec) : List Stp := ((List.range n).filter fun j => y j != 0).map fun (j : Nat) => ⟨1, (reg : Int), (j : Int), y j⟩
def byV (D L : Nat) (R : List Nat) (i : Nat) : Vec := solX D R.length (eqM R.length (fun k => codeM D L (R.getD k 0)) (codeM D L i))
def loadsL (R : List Nat) : List Stp := (List.range R.length).map fun (t : Nat) => ⟨0, (t : Int), (R.getD t 0 : Nat), 0⟩
def putL (D L : Nat) (R : List Nat) (u i : Nat) : List Stp := addsL (R.length + u) R.length (byV D L R i) ++ [⟨2, (R.length + u : Nat), (i : Int), 0⟩]
def putsL (D L : Nat) (R l : List Nat) : List Stp := (List.range l.length).flatMap fun u => putL D L R u (l.getD u 0)
def readL (D L N x : Nat) : List Nat := sel N (readsN D L N x).testBit
def lostL (N x : Nat) : List Nat := sel N x.testBit
def progL (D L N x : Nat) : List Stp := loadsL (readL D L N x) ++ putsL D L (readL D L N x) (lostL N x)
def regsN (D L N x : Nat) : Nat := (readL D L N x).length + (lostL N x).length

theorem addsL_zero (reg : Nat) (y : Vec) : addsL reg 0 y = [] := rfl
theorem addsL_succ (reg n : Nat) (y : Vec) : addsL reg (n + 1) y = if y n != 0 then addsL reg n y ++ [⟨1, (reg : Int), (n : Int), y n⟩] else addsL reg n y := by
  unfold addsL
  rw [List.range_succ, List.filter_append, List.map_append]
  by_cases h : (y n != 0) = true
  · rw [if_pos h]; simp [h]
  · rw [if_neg h]; simp [h]
theorem loadsL_snoc (R : List Nat) (i : Nat) : loadsL (R ++ [i]) = loadsL R ++ [⟨0, (R.length : Int), (i : Int), 0⟩] := by
  unfold loadsL
  rw [List.length_append, List.length_singleton, List.range_succ, List.map_append]
  congr 1
  · refine List.map_congr_left fun t ht => ?_
    have : t < R.length := by simpa using ht
    simp [List.getD_eq_getElem?_getD, List.getElem?_append_left this]
  · simp
theorem putsL_snoc (D L : Nat) (R l : List Nat) (i : Nat) : putsL D L R (l ++ [i]) = putsL D L R l ++ putL D L R l.length i := by
  unfold putsL
  rw [List.length_append, List.length_singleton, List.range_succ, List.flatMap_append]
  congr 1
  · rw [List.flatMap_def, List.flatMap_def]
    congr 1
    refine List.map_congr_left fun t ht => ?_
    have : t < l.length := by simpa using ht
    simp [List.getD_eq_getElem?_getD, List.getElem?_append_left this]
  · simp
theorem putsL_nil (D L : Nat) (R : List Nat) : putsL D L R [] = [] := rfl
theorem addsL_len (reg n : Nat) (y : Vec) : (addsL reg n y).length ≤ n := by
  unfold addsL; rw [List.length_map]
  exact Nat.le_trans (List.length_filter_le _ _) (by simp)
theorem loadsL_len (R : List Nat) : (loadsL R).length = R.length := by simp [loadsL]
theorem putL_len (D L : Nat) (R : List Nat) (u i : Nat) : (putL D L R u i).length ≤ R.length + 1 := by
  unfold putL; rw [List.length_append]; have := addsL_len (R.length + u) R.length (byV D L R i); simp; exact this

/-- By induction on a list from its end. -/
theorem snoc_ind {α : Type} {P : List α → Prop} (h0 : P []) (h1 : ∀ l a, P l → P (l ++ [a])) (l : List α) : P l := by
  have : ∀ m : List α, P m.reverse := by
    intro m
    induction m with
    | nil => exact h0
    | cons a m ih => rw [List.reverse_cons]; exact h1 _ _ ih
  simpa using this l.reverse

theorem putsL_len (D L : Nat) (R l : List Nat) : (putsL D L R l).length ≤ l.length * (R.length + 1) := by
  refine snoc_ind (P := fun l => (putsL D L R l).length ≤ l.length * (R.length + 1)) (by simp [putsL]) (fun l a ih => ?_) l
  rw [putsL_snoc, List.length_append, List.length_append, List.length_singleton, Nat.add_mul]
  have := putL_len D L R l.length a
  omega

/-- One step's run. -/
def stepB (sh : Nat → Nat → UInt8) (t : (Nat → Nat → UInt8) × List (Int × (Nat → UInt8))) (s : Stp) : (Nat → Nat → UInt8) × List (Int × (Nat → UInt8)) :=
  (stepR sh s t.1, if s.k.toNat = 2 then t.2 ++ [(s.b, t.1 s.a.toNat)] else t.2)
def runB (sh : Nat → Nat → UInt8) (P : List Stp) (t : (Nat → Nat → UInt8) × List (Int × (Nat → UInt8))) := P.foldl (stepB sh) t
theorem runB_append (sh : Nat → Nat → UInt8) (P Q : List Stp) (t) : runB sh (P ++ Q) t = runB sh Q (runB sh P t) := List.foldl_append ..
theorem runB_regs (sh : Nat → Nat → UInt8) (P : List Stp) : ∀ k, k ≤ P.length → runB sh (P.take k) (fun _ _ => 0, []) = (regsAt sh (fun t => P.getD t Sd) k, outL sh (fun t => P.getD t Sd) k)
  | 0, _ => rfl
  | k + 1, hk => by
    have hk' : k < P.length := hk
    rw [List.take_succ_eq_append_getElem hk', runB_append, runB_regs sh P k (by omega)]
    have e : P.getD k Sd = P[k] := by simp [List.getD_eq_getElem?_getD, hk']
    show stepB sh _ P[k] = (stepR sh (P.getD k Sd) _, if (P.getD k Sd).k.toNat = 2 then outL sh (fun t => P.getD t Sd) k ++ [((P.getD k Sd).b, regsAt sh (fun t => P.getD t Sd) k (P.getD k Sd).a.toNat)] else outL sh (fun t => P.getD t Sd) k)
    rw [e]; rfl
theorem runB_all (sh : Nat → Nat → UInt8) (P : List Stp) : outL sh (fun t => P.getD t Sd) P.length = (runB sh P (fun _ _ => 0, [])).2 := by
  have := runB_regs sh P P.length (Nat.le_refl _)
  rw [List.take_length] at this
  rw [this]

theorem run_loads (sh : Nat → Nat → UInt8) (R : List Nat) : runB sh (loadsL R) (fun _ _ => 0, []) = (fun r => if r < R.length then sh (R.getD r 0) else fun _ => 0, []) := by
  refine snoc_ind (P := fun R => runB sh (loadsL R) (fun _ _ => 0, []) = (fun r => if r < R.length then sh (R.getD r 0) else fun _ => 0, [])) ?_ (fun l a ih => ?_) R
  · simp [loadsL, runB]
  · rw [loadsL_snoc, runB_append, ih]
    show stepB sh _ _ = _
    unfold stepB stepR
    simp only [UInt8.toNat_ofNat, Int.toNat_natCast]
    refine Prod.ext ?_ (by simp)
    funext r
    simp only [show ((0 : UInt8).toNat = 0) from rfl, if_true, List.length_append, List.length_singleton]
    by_cases h : r = l.length
    · subst h; simp [List.getD_eq_getElem?_getD]
    · rw [if_neg h]
      by_cases h' : r < l.length
      · rw [if_pos h', if_pos (by omega)]; simp [List.getD_eq_getElem?_getD, List.getElem?_append_left h']
      · rw [if_neg h', if_neg (by omega)]

theorem run_adds (sh : Nat → Nat → UInt8) (reg : Nat) (y : Vec) (M : Nat → Nat → UInt8) (o : List (Int × (Nat → UInt8))) : ∀ n, n ≤ reg → runB sh (addsL reg n y) (M, o) = (fun r => if r = reg then fun t => M reg t ^^^ dot n (fun j => M j t) y else M r, o)
  | 0, _ => by
    refine Prod.ext ?_ rfl
    funext r
    show M r = if r = reg then (fun t => M reg t ^^^ dot 0 (fun j => M j t) y) else M r
    by_cases h : r = reg
    · rw [if_pos h, h]; funext t
      show _ = M reg t ^^^ 0
      simp
    · rw [if_neg h]
  | n + 1, hn => by
    have ih := run_adds sh reg y M o n (by omega)
    rw [addsL_succ]
    by_cases h : (y n != 0) = true
    · rw [if_pos h, runB_append, ih]
      show stepB sh _ _ = _
      unfold stepB stepR
      refine Prod.ext ?_ (by simp)
      funext r
      simp only [show ((1 : UInt8).toNat = 1) from rfl, Int.toNat_natCast, show ¬ (1 = 0) by omega, if_false, if_true]
      by_cases hr : r = reg
      · subst hr
        rw [if_pos rfl, if_pos rfl]
        funext t
        rw [if_neg (by omega), dot_succ, UInt8.xor_assoc, mul_comm (y n)]
      · rw [if_neg hr, if_neg hr, if_neg hr]
    · rw [if_neg h, ih]
      have h0 : y n = 0 := by simpa using h
      refine Prod.ext ?_ rfl
      funext r
      by_cases hr : r = reg
      · simp only [if_pos hr]
        funext t
        rw [dot_succ, h0, mul_zero]; simp
      · simp only [if_neg hr]

/-- The registers behind so many that were put out. -/
def regP (sh : Nat → Nat → UInt8) (R : List Nat) (D L : Nat) (l : List Nat) : Nat → Nat → UInt8 := fun r =>
  if r < R.length then sh (R.getD r 0) else if r < R.length + l.length then fun t => dot R.length (fun j => sh (R.getD j 0) t) (byV D L R (l.getD (r - R.length) 0)) else fun _ => 0
def outP (sh : Nat → Nat → UInt8) (R : List Nat) (D L : Nat) (l : List Nat) : List (Int × (Nat → UInt8)) :=
  l.map fun (i : Nat) => ((i : Int), fun t => dot R.length (fun j => sh (R.getD j 0) t) (byV D L R i))

theorem run_puts (sh : Nat → Nat → UInt8) (R : List Nat) (D L : Nat) (l : List Nat) :
    runB sh (putsL D L R l) (fun r => if r < R.length then sh (R.getD r 0) else fun _ => 0, []) = (regP sh R D L l, outP sh R D L l) := by
  refine snoc_ind (P := fun l => runB sh (putsL D L R l) (fun r => if r < R.length then sh (R.getD r 0) else fun _ => 0, []) = (regP sh R D L l, outP sh R D L l)) ?_ (fun l a ih => ?_) l
  · refine Prod.ext ?_ rfl
    funext r
    show (if r < R.length then _ else _) = regP sh R D L [] r
    unfold regP
    by_cases h : r < R.length
    · rw [if_pos h, if_pos h]
    · rw [if_neg h, if_neg h, if_neg (by simpa using h)]
  · rw [putsL_snoc, runB_append, ih, putL, runB_append, run_adds sh _ _ _ _ _ (by omega)]
    show stepB sh _ _ = _
    unfold stepB stepR
    have hd : ∀ t, dot R.length (fun j => regP sh R D L l j t) (byV D L R a) = dot R.length (fun j => sh (R.getD j 0) t) (byV D L R a) := fun t =>
      dot_congr (fun j hj => by unfold regP; rw [if_pos hj]) fun _ _ => rfl
    have h0 : regP sh R D L l (R.length + l.length) = fun _ => 0 := by unfold regP; rw [if_neg (by omega), if_neg (by omega)]
    simp only [show ((2 : UInt8).toNat = 2) from rfl, Int.toNat_natCast, if_true, h0, hd]
    refine Prod.ext ?_ ?_
    · funext r
      simp only [show ¬ (2 = 0) by omega, show ¬ (2 = 1) by omega, if_false]
      by_cases h : r = R.length + l.length
      · subst h
        rw [if_pos rfl]
        unfold regP
        rw [if_neg (by omega), if_pos (by simp)]
        funext t
        simp [List.getD_eq_getElem?_getD]
      · rw [if_neg h]
        unfold regP
        by_cases h1 : r < R.length
        · rw [if_pos h1, if_pos h1]
        · rw [if_neg h1, if_neg h1]
          by_cases h2 : r < R.length + l.length
          · rw [if_pos h2, if_pos (by simp; omega)]
            have : r - R.length < l.length := by omega
            simp [List.getD_eq_getElem?_getD, List.getElem?_append_left this]
          · rw [if_neg h2, if_neg (by simp; omega)]
    · simp [outP]

theorem run_prog (sh : Nat → Nat → UInt8) (D L N x : Nat) :
    outL sh (fun t => (progL D L N x).getD t Sd) (progL D L N x).length = outP sh (readL D L N x) D L (lostL N x) := by
  rw [runB_all, progL, runB_append, run_loads, run_puts]

/-- What is put out is what was lost. -/
theorem dot_swap {D : Nat} (rows : Mat) (y X : Vec) : ∀ n, dot n (fun j => dot D (rows j) X) y = dot D (fun q => dot n (fun k => rows k q) y) X
  | 0 => by
    show (0 : F) = dot D (fun _ => 0) X
    rw [dot_zero]
  | n + 1 => by
    have e : (fun q => dot (n + 1) (fun k => rows k q) y) = fun q => dot n (fun k => rows k q) y ^^^ mul (y n) (rows n q) := by
      funext q; rw [dot_succ, mul_comm]
    rw [dot_succ, dot_swap rows y X n, e, dot_add, dot_smul, mul_comm]

theorem by_right {D L : Nat} {R : List Nat} {i : Nat} (h : Sp (RL D (codeM D L) R) (tr D (codeM D L) i)) : ∀ j < D, dot R.length (fun k => codeM D L (R.getD k 0) j) (byV D L R i) = codeM D L i j := by
  have h1 : Sp (Lin.Rows R.length (nth D (codeM D L) R)) (tr D (codeM D L) i) := h.mono fun r hr => .row (rows_nth.2 hr)
  obtain ⟨y, hy⟩ := sp_coef h1
  have h2 := coef_sp (n := R.length) (M := fun k => codeM D L (R.getD k 0)) y
  refine (combine_sound (D := D) (t := codeM D L i) ⟨_, h2, fun j hj => ?_⟩).2
  have := hy j
  unfold tr nth tr at this
  rw [if_pos hj] at this
  rw [this]
  exact dot_congr (fun k _ => by simp only [if_pos hj]) fun _ _ => rfl
theorem by_rest {D L : Nat} {R : List Nat} {i : Nat} (h : Sp (RL D (codeM D L) R) (tr D (codeM D L) i)) :
    ∀ q, (reduce D (eqM R.length (fun k => codeM D L (R.getD k 0)) (codeM D L i)) R.length).2.length ≤ q → q < D → (reduce D (eqM R.length (fun k => codeM D L (R.getD k 0)) (codeM D L i)) R.length).1 q R.length = 0 := by
  have h1 : Sp (Lin.Rows R.length (nth D (codeM D L) R)) (tr D (codeM D L) i) := h.mono fun r hr => .row (rows_nth.2 hr)
  obtain ⟨y, hy⟩ := sp_coef h1
  have h2 := coef_sp (n := R.length) (M := fun k => codeM D L (R.getD k 0)) y
  refine (combine_sound (D := D) (t := codeM D L i) ⟨_, h2, fun j hj => ?_⟩).1
  have := hy j
  unfold tr nth tr at this
  rw [if_pos hj] at this
  rw [this]
  exact dot_congr (fun k _ => by simp only [if_pos hj]) fun _ _ => rfl

theorem out_right {D L : Nat} {R : List Nat} {i : Nat} (X : Nat → Nat → UInt8) (h : Sp (RL D (codeM D L) R) (tr D (codeM D L) i)) (t : Nat) :
    dot R.length (fun j => encM D L X (R.getD j 0) t) (byV D L R i) = encM D L X i t := by
  show dot R.length (fun j => dot D (codeM D L (R.getD j 0)) (fun q => X q t)) (byV D L R i) = dot D (codeM D L i) (fun q => X q t)
  rw [dot_swap]
  exact dot_congr (fun q hq => by_right h q hq) fun _ _ => rfl

/-- What a program loads: which, how many, whether one twice. -/
def loadF (t : Nat × Nat × Bool) (s : Stp) : Nat × Nat × Bool :=
  if s.k.toNat = 0 ∧ 0 ≤ s.b ∧ s.b < 64 then (t.1 ||| 2 ^ s.b.toNat, t.2.1 + 1, t.2.2 || t.1.testBit s.b.toNat) else t
def loadedL (P : List Stp) : Nat × Nat × Bool := P.foldl loadF (0, 0, false)
theorem loadedL_snoc (P : List Stp) (s : Stp) : loadedL (P ++ [s]) = loadF (loadedL P) s := by unfold loadedL; rw [List.foldl_append]; rfl
theorem loaded_loads {R : List Nat} (h : R.Nodup) (hN : ∀ i ∈ R, i < 64) : loadedL (loadsL R) = (mask R, R.length, false) := by
  revert h hN
  refine snoc_ind (P := fun R => R.Nodup → (∀ i ∈ R, i < 64) → loadedL (loadsL R) = (mask R, R.length, false)) (fun _ _ => rfl) (fun l a ih h hN => ?_) R
  rw [List.nodup_append] at h
  rw [loadsL_snoc, loadedL_snoc, ih h.1 fun i hi => hN i (List.mem_append_left _ hi)]
  unfold loadF
  have ha : a < 64 := hN a (by simp)
  rw [if_pos ⟨rfl, by simp, by simp; omega⟩]
  have e1 : mask (l ++ [a]) = mask l ||| 2 ^ a := by
    apply Nat.eq_of_testBit_eq
    intro i
    rw [Nat.testBit_or, testBit_mask, testBit_mask, Nat.testBit_two_pow]
    by_cases h1 : i ∈ l <;> by_cases h2 : a = i <;> simp [h1, h2, eq_comm]
  have e2 : (mask l).testBit a = false := by
    rw [testBit_mask]; simp
    intro hm
    exact h.2.2 a hm a (by simp) rfl
  simp only [Int.toNat_natCast, e1, e2, List.length_append, List.length_singleton, Bool.or_false]
theorem loaded_rest (P Q : List Stp) (h : ∀ s ∈ Q, s.k.toNat ≠ 0) : loadedL (P ++ Q) = loadedL P := by
  unfold loadedL
  rw [List.foldl_append]
  generalize List.foldl loadF (0, 0, false) P = t
  induction Q generalizing t with
  | nil => rfl
  | cons s Q ih =>
    rw [List.foldl_cons, show loadF t s = t from by unfold loadF; rw [if_neg fun h' => h s (List.mem_cons_self ..) h'.1]]
    exact ih (fun s hs => h s (List.mem_cons_of_mem _ hs)) t

theorem mem_addsL {reg n : Nat} {y : Vec} {s : Stp} (h : s ∈ addsL reg n y) : ∃ j, j < n ∧ s = ⟨1, (reg : Int), (j : Int), y j⟩ := by
  unfold addsL at h
  obtain ⟨j, hj, rfl⟩ := List.mem_map.1 h
  exact ⟨j, by simpa using (List.mem_filter.1 hj).1, rfl⟩
theorem mem_putsL {D L : Nat} {R l : List Nat} {s : Stp} (h : s ∈ putsL D L R l) : ∃ u, u < l.length ∧ ((∃ j, j < R.length ∧ ∃ c, s = ⟨1, (R.length + u : Nat), (j : Int), c⟩) ∨ s = ⟨2, (R.length + u : Nat), (l.getD u 0 : Nat), 0⟩) := by
  unfold putsL at h
  obtain ⟨u, hu, hs⟩ := List.mem_flatMap.1 h
  refine ⟨u, by simpa using hu, ?_⟩
  unfold putL at hs
  rcases List.mem_append.1 hs with hs | hs
  · obtain ⟨j, hj, rfl⟩ := mem_addsL hs
    exact .inl ⟨j, hj, _, rfl⟩
  · exact .inr (by simpa using hs)
theorem mem_loadsL {R : List Nat} {s : Stp} (h : s ∈ loadsL R) : ∃ t, t < R.length ∧ s = ⟨0, (t : Int), (R.getD t 0 : Nat), 0⟩ := by
  unfold loadsL at h
  obtain ⟨t, ht, rfl⟩ := List.mem_map.1 h
  exact ⟨t, by simpa using ht, rfl⟩

theorem readL_lt {D L N x i : Nat} (h : i ∈ readL D L N x) : i < N := (mem_sel.1 h).1
theorem lostL_lt {N x i : Nat} (h : i ∈ lostL N x) : i < N := (mem_sel.1 h).1
theorem loaded_prog {D L N x : Nat} (hN : N ≤ 16) (hr : readsN D L N x < 2 ^ N) : loadedL (progL D L N x) = (readsN D L N x, (readL D L N x).length, false) := by
  unfold progL
  rw [loaded_rest _ _ fun s hs => by
    obtain ⟨u, _, (⟨j, _, c, rfl⟩ | rfl)⟩ := mem_putsL hs
    · simp
    · simp, loaded_loads (R := readL D L N x) (List.Pairwise.imp (fun h => Nat.ne_of_lt h) (sel_pair _ _)) fun i hi => by have := readL_lt hi; omega]
  unfold readL
  rw [mask_sel hr]

/-- Lost and read together are no more than all. -/
theorem both_len {D L N x : Nat} (h : ∀ b, (readsN D L N x).testBit b = true → x.testBit b = false) : regsN D L N x ≤ N := by
  unfold regsN readL lostL
  have e : ∀ n, (sel n (readsN D L N x).testBit).length + (sel n x.testBit).length ≤ n := by
    intro n
    induction n with
    | zero => simp [sel]
    | succ n ih =>
      rw [sel_succ, sel_succ]
      by_cases h1 : (readsN D L N x).testBit n = true
      · rw [if_pos h1, if_neg (by rw [h n h1]; simp)]; simp; omega
      · rw [if_neg h1]; split
        · rw [List.length_append, List.length_singleton]; omega
        · omega
  exact e N

theorem getD_of_mem {P : List Stp} {i : Nat} (h : i < P.length) : P.getD i Sd ∈ P := by
  rw [List.getD_eq_getElem?_getD, List.getElem?_eq_getElem h]; exact List.getElem_mem h

/-- The program is one. -/
theorem prog_ok {D L N x : Nat} (hN : N ≤ 16) (h : ∀ b, (readsN D L N x).testBit b = true → x.testBit b = false) :
    OkP (regsN D L N x) (progL D L N x).length (fun t => (progL D L N x).getD t Sd) (N : Int) := by
  have hb := both_len h
  have h1 := sel_len N (readsN D L N x).testBit
  have h2 := sel_len N x.testBit
  have hl : (progL D L N x).length ≤ 2000 := by
    unfold progL
    rw [List.length_append, loadsL_len]
    have h3 := putsL_len D L (readL D L N x) (lostL N x)
    have h4 : (lostL N x).length * ((readL D L N x).length + 1) ≤ 16 * 17 := Nat.mul_le_mul (by unfold lostL; omega) (by unfold readL; omega)
    have : (readL D L N x).length ≤ 16 := by unfold readL; omega
    omega
  refine ⟨by omega, by omega, hl, fun i hi => ?_⟩
  have hm := getD_of_mem hi
  show OkStep _ _ ((progL D L N x).getD i Sd)
  generalize (progL D L N x).getD i Sd = s at *
  unfold progL at hm
  rcases List.mem_append.1 hm with hm | hm
  · obtain ⟨t, ht, rfl⟩ := mem_loadsL hm
    have hr : (readL D L N x).getD t 0 < N := readL_lt (getD_mem' ht)
    refine ⟨by simp, ?_, .inl ⟨.inl rfl, by simp only; omega, by simp only; omega⟩⟩
    show (t : Int) < (regsN D L N x : Nat)
    unfold regsN; omega
  · obtain ⟨u, hu, (⟨j, hj, c, rfl⟩ | rfl)⟩ := mem_putsL hm
    · refine ⟨by simp only; omega, ?_, .inr ⟨rfl, by simp, ?_, ?_⟩⟩
      · show (((readL D L N x).length + u : Nat) : Int) < (regsN D L N x : Nat)
        unfold regsN; omega
      · show (j : Int) < (regsN D L N x : Nat)
        unfold regsN; omega
      · show (((readL D L N x).length + u : Nat) : Int) ≠ (j : Int)
        omega
    · have hr : (lostL N x).getD u 0 < N := lostL_lt (getD_mem' hu)
      refine ⟨by simp only; omega, ?_, .inl ⟨.inr rfl, by simp only; omega, by simp only; omega⟩⟩
      show (((readL D L N x).length + u : Nat) : Int) < (regsN D L N x : Nat)
      unfold regsN; omega
end Go.Proofs.YthaamnjpjkkolabDoor
