import Derived.Test.YthaamnjpjkkolabDoorMaMat
/- Scale. -/
namespace Go.Proofs.YthaamnjpjkkolabDoor
open Go.RowKit Go.Proofs
set_option maxRecDepth 100000
set_option linter.unusedVariables false

set_option maxHeartbeats 400000 in
theorem scale_any (g n c : Nat) (x : Nat → UInt8) (k : UInt8) (w : World) (hx : Row w g 0 n (bs x)) (hn : n ≤ 1000000) :
    Calls Tryd.prog 81 #[.slice (some ⟨g, 0, none⟩) n c, B k] w fun e w' => e = .returned (.tuple #[]) ∧ Done w w' g n (fun j => Gf.mul k (x j)) := by
  have HX := Lib.hid hx
  clear hx
  go_enter Tryd.func81, Tryd.ntmps81
  go_wp2_with fail
  go_loopw [8] (fun i wr => ∃ m : Nat, m ≤ n ∧ i = I m ∧ Doing w wr g n m x (fun j => Gf.mul k (x j))) (fun i _ => n - (intOf i).toNat)
  case atStart => exact ⟨0, by omega, rfl, Doing.start HX.out⟩
  case round =>
    obtain ⟨m, hm, rfl, hd⟩ := hrel
    have HD := Lib.hid hd
    clear hd
    by_cases hlt : m < n
    · have c1 := HD.out.cellAt hlt
      have f1 := HD.out.freeAt hlt
      go_wp2_with (go_at_call 62; refine (mul_any _ _ _).mono ?_; rintro e w1 ⟨rfl, rfl⟩)
      go_roundw
      case rel => exact ⟨m + 1, by omega, by go_num, HD.out.next hlt rfl⟩
      case measure => simp [intOf]; omega
    · go_wp2
      go_end0
      obtain rfl : m = n := by omega
      exact ⟨rfl, HD.out.done⟩

end Go.Proofs.YthaamnjpjkkolabDoor

/- Reduce and Rank of the program. -/
namespace Go.Proofs.YthaamnjpjkkolabDoor
open Go.RowKit Go.Proofs Lin
set_option maxRecDepth 100000
set_option linter.unusedVariables false

theorem Mx.congr {w : World} {g n W : Nat} {β : Nat → Nat} {M N : Nat → Nat → UInt8} (h : Mx w g n W β M) (e : ∀ i, i < n → ∀ j, j < W → M i j = N i j) : Mx w g n W β N :=
  ⟨h.outer, fun i hi => (h.rows i hi).congr fun j hj => by simp [bs, e i hi j hj], h.kd, h.inj, h.gk⟩
theorem Mx.drewN {w : World} {g n W : Nat} {β : Nat → Nat} {M : Nat → Nat → UInt8} (h : Mx w g n W β M) (q : Nat) : Mx (w.drewN q) g n W β M :=
  ⟨h.outer.drewN q, fun i hi => (h.rows i hi).drewN q, h.kd, h.inj, h.gk⟩
theorem Mx.upd {w w' : World} {G : Nat → Prop} {g n W : Nat} {β : Nat → Nat} {M : Nat → Nat → UInt8} (h : Mx w g n W β M) (hu : Upd G w w') (hg : ¬ G g) (hr : ∀ i, i < n → ¬ G (β i)) : Mx w' g n W β M :=
  ⟨h.outer.upd hu fun _ => hg, fun i hi => (h.rows i hi).upd hu fun _ => hr i hi, fun i hi => (h.kd i hi).upd hu (hr i hi), h.inj, h.gk.upd hu hg⟩

/-- Row p's block was turned. -/
theorem Mx.rowDone {w w' : World} {g n W p : Nat} {β : Nat → Nat} {M : Nat → Nat → UInt8} {y : Nat → UInt8} (h : Mx w g n W β M) (hp : p < n) (hd : Done w w' (β p) W y) :
    Mx w' g n W β (fun r => if r = p then y else M r) := by
  refine ⟨h.outer.upd hd.upd fun _ e => h.ne hp e.symm, fun i hi => ?_, fun i hi => hd.kd _ _ (h.kd i hi), h.inj, hd.kd _ _ h.gk⟩
  by_cases e : i = p
  · subst e; simp only [if_true]; exact hd.row
  · simp only [if_neg e]; exact (h.rows i hi).upd hd.upd fun _ e' => e (h.inj i p hi hp e')

def swp (i p : Nat) : Nat → Nat := fun r => if r = i then p else if r = p then i else r
def swapB (β : Nat → Nat) (i p : Nat) : Nat → Nat := fun r => β (swp i p r)
theorem swp_lt {n i p r : Nat} (hi : i < n) (hp : p < n) (hr : r < n) : swp i p r < n := by unfold swp; split <;> (try split) <;> omega
theorem swp_inj {i p j k : Nat} (e : swp i p j = swp i p k) : j = k := by
  unfold swp at e; split at e <;> split at e <;> (try split at e) <;> (try split at e) <;> omega
theorem swap_swp (M : Mat) (i p : Nat) : swap M i p = fun r => M (swp i p r) := by
  funext r; unfold swap swp; split
  · rfl
  · split <;> rfl

theorem Mx.swapped {w : World} {g n W i p : Nat} {β : Nat → Nat} {M : Nat → Nat → UInt8} (h : Mx w g n W β M) (hi : i < n) (hp : p < n) :
    Mx ((w.setCell ⟨g, i, none⟩ (.slice (some ⟨β p, 0, none⟩) W W)).setCell ⟨g, p, none⟩ (.slice (some ⟨β i, 0, none⟩) W W)) g n W (swapB β i p) (swap M i p) := by
  have h1 := (h.outer.set hi (.slice (some ⟨β p, 0, none⟩) W W)).set hp (.slice (some ⟨β i, 0, none⟩) W W)
  rw [Nat.zero_add, Nat.zero_add] at h1
  rw [swap_swp]
  refine ⟨h1.congr fun j _ => ?_, fun j hj => ?_, fun j hj => ?_, fun j k hj hk e => swp_inj (h.inj _ _ (swp_lt hi hp hj) (swp_lt hi hp hk) e), (h.gk.set _ _).set _ _⟩
  · unfold swapB swp
    by_cases e1 : j = p
    · subst e1
      by_cases e2 : j = i
      · subst e2; simp
      · simp [e2]
    · by_cases e2 : j = i
      · subst e2; simp [e1]
      · simp [e1, e2]
  · have hk := swp_lt hi hp hj
    exact ((h.rows _ hk).other (a := ⟨g, i, none⟩) (Ne.symm (h.ne hk)) _).other (a := ⟨g, p, none⟩) (Ne.symm (h.ne hk)) _
  · exact ((h.kd _ (swp_lt hi hp hj)).set _ _).set _ _

theorem Mx.scaled {w w' : World} {g n W p : Nat} {β : Nat → Nat} {M : Nat → Nat → UInt8} {k : UInt8} (h : Mx w g n W β M) (hp : p < n) (hd : Done w w' (β p) W (fun j => Gf.mul k (M p j))) :
    Mx w' g n W β (scale M p k) := by
  refine (h.rowDone hp hd).congr fun i _ j _ => ?_
  unfold scale
  by_cases e : i = p <;> simp [e]

/-- Of the rows below j, row p was taken away. -/
def upTo (M : Mat) (p : Nat) (k : Nat → UInt8) (j : Nat) : Mat := elim M j p k

theorem upTo_next {M : Mat} {p r i x W : Nat} {k : Nat → UInt8} (hrp : r ≠ p) (hx : x < W) :
    (if i = r then (fun x => if x < W then upTo M p k r r x ^^^ Gf.mul (k r) (upTo M p k r p x) else upTo M p k r r x) else upTo M p k r i) x = upTo M p k (r + 1) i x := by
  unfold upTo elim
  by_cases e : i = r
  · subst e
    simp [hx, hrp]
  · simp only [if_neg e]
    by_cases e1 : i ≠ p ∧ i < r
    · rw [if_pos e1, if_pos ⟨e1.1, by omega⟩]
    · rw [if_neg e1, if_neg (by omega)]

theorem upTo_at (M : Mat) (p : Nat) (k : Nat → UInt8) (r : Nat) : upTo M p k r r = M r := by simp [upTo, elim]
theorem upTo_p (M : Mat) (p : Nat) (k : Nat → UInt8) (r : Nat) : upTo M p k r p = M p := by simp [upTo, elim]

/-- While Reduce goes on: c columns are done. -/
structure Reducing (w wr : World) (g n W : Nat) (β0 β : Nat → Nat) (v : Value) (s : Mat × List Nat) : Prop where
  mx : Mx wr g n W β s.1
  perm : ∀ i, i < n → ∃ j, j < n ∧ β i = β0 j
  upd : Upd (fun b => b = g ∨ ∃ j, j < n ∧ b = β0 j) w wr
  piv : Vc wr w.heap.size 3 v s.2.length (fun i => I (s.2.getD i 0 : Nat))

theorem swap_p (R : Mat) (r p c : Nat) : swap R r p p c = R r c := by
  unfold swap; split
  · rename_i e; rw [e]
  · rw [if_pos rfl]

namespace Reducing
variable {w wr w' : World} {g n W : Nat} {β0 β : Nat → Nat} {v : Value} {R N : Mat} {piv : List Nat}

theorem congr (h : Reducing w wr g n W β0 β v (R, piv)) (e : ∀ i, i < n → ∀ j, j < W → R i j = N i j) : Reducing w wr g n W β0 β v (N, piv) :=
  ⟨h.mx.congr e, h.perm, h.upd, h.piv⟩
theorem drewN (h : Reducing w wr g n W β0 β v (R, piv)) (q : Nat) : Reducing w (wr.drewN q) g n W β0 β v (R, piv) :=
  ⟨h.mx.drewN q, h.perm, h.upd.drewN q, h.piv.drewN q⟩
theorem rowDone {p : Nat} {y : Nat → UInt8} (h : Reducing w wr g n W β0 β v (R, piv)) (hp : p < n) (hd : Done wr w' (β p) W y) :
    Reducing w w' g n W β0 β v (fun r => if r = p then y else R r, piv) := by
  refine ⟨h.mx.rowDone hp hd, h.perm, h.upd.trans hd.upd fun b e _ => ?_, h.piv.kept hd.upd fun k hk => h.piv.block_ne (h.mx.kd p hp) (by decide) k hk⟩
  obtain ⟨j, hj, e2⟩ := h.perm p hp
  exact .inr ⟨j, hj, by rw [e, e2]⟩
theorem swapped {i p : Nat} (h : Reducing w wr g n W β0 β v (R, piv)) (hi : i < n) (hp : p < n) :
    Reducing w ((wr.setCell ⟨g, i, none⟩ (.slice (some ⟨β p, 0, none⟩) W W)).setCell ⟨g, p, none⟩ (.slice (some ⟨β i, 0, none⟩) W W)) g n W β0 (swapB β i p) v (swap R i p, piv) := by
  refine ⟨h.mx.swapped hi hp, fun j hj => h.perm _ (swp_lt hi hp hj), (h.upd.setCell (a := ⟨g, i, none⟩) (fun _ => .inl rfl) _).setCell (a := ⟨g, p, none⟩) (fun _ => .inl rfl) _, ?_⟩
  have hu : Upd (· = g) wr ((wr.setCell ⟨g, i, none⟩ (.slice (some ⟨β p, 0, none⟩) W W)).setCell ⟨g, p, none⟩ (.slice (some ⟨β i, 0, none⟩) W W)) :=
    ((Upd.refl (· = g) wr).setCell (a := ⟨g, i, none⟩) (fun _ => rfl) _).setCell (a := ⟨g, p, none⟩) (fun _ => rfl) _
  exact h.piv.kept hu fun k hk => h.piv.block_ne h.mx.gk (by decide) k hk
theorem appended {c : Nat} {v2 : Value} (h : Reducing w wr g n W β0 β v (R, piv)) (hv : Vc w' w.heap.size 3 v2 (piv.length + 1) (fun i => if i < piv.length then I (piv.getD i 0 : Nat) else I (c : Int)))
    (hu : Upd (fun b => some b = v.ownBlock) wr w') : Reducing w w' g n W β0 β v2 (R, piv ++ [c]) := by
  refine ⟨h.mx.upd hu (fun e => h.piv.block_ne h.mx.gk (by decide) g e.symm rfl) fun i hi e => h.piv.block_ne (h.mx.kd i hi) (by decide) _ e.symm rfl, h.perm, h.upd.trans hu fun b e hb => ?_, ?_⟩
  · have := (h.piv.lt b e.symm).1; omega
  · rw [show (piv ++ [c]).length = piv.length + 1 by simp]
    refine hv.congr fun i hi => ?_
    by_cases e : i < piv.length
    · simp [e, List.getElem?_append_left e]
    · obtain rfl : i = piv.length := by omega
      simp
end Reducing

theorem inv_still (x : UInt8) (w : World) : Calls Tryd.prog 46 #[B x] w fun e w' => e = .returned (B (Gf.inv x)) ∧ w' = w :=
  (inv_any x w).mono fun _ _ ⟨h1, h2⟩ => ⟨h1, h2.symm⟩

theorem infoInt : (Tryd.prog.info? 3).map (fun i => (i.zero, i.size, i.bytes)) = some (some (.int .i64 0), 1, 8) := by kernel_rfl

theorem firstFrom_eq_none {q : Nat → Bool} {p m : Nat} (h : ∀ k, p ≤ k → k < p + m → q k = false) : firstFrom q p m = none := by
  induction m generalizing p with
  | zero => rfl
  | succ m ih =>
    simp only [firstFrom]
    rw [if_neg (by rw [h p (by omega) (by omega)]; decide)]
    exact ih fun k h1 h2 => h k (by omega) (by omega)
theorem firstFrom_eq_some {q : Nat → Bool} {p m i : Nat} (h1 : p ≤ i) (h2 : i < p + m) (h3 : q i = true) (h : ∀ k, p ≤ k → k < i → q k = false) : firstFrom q p m = some i := by
  induction m generalizing p with
  | zero => omega
  | succ m ih =>
    simp only [firstFrom]
    by_cases e : p = i
    · subst e; rw [if_pos h3]
    · rw [if_neg (by rw [h p (by omega) (by omega)]; decide)]
      exact ih (by omega) (by omega) fun k h1 h2 => h k (by omega) h2

theorem redStep_none {n c : Nat} {R : Mat} {piv : List Nat} (hle : piv.length ≤ n) (h : ∀ q, piv.length ≤ q → q < n → R q c = 0) : redStep n c (R, piv) = (R, piv) := by
  unfold redStep
  simp only
  rw [firstFrom_eq_none fun k h1 h2 => by rw [h k h1 (by omega)]; rfl]
theorem redStep_some {n c i : Nat} {R : Mat} {piv : List Nat} (h1 : piv.length ≤ i) (h2 : i < n) (h3 : R i c ≠ 0) (h : ∀ q, piv.length ≤ q → q < i → R q c = 0) :
    redStep n c (R, piv) = (upTo (scale (swap R i piv.length) piv.length (Gf.inv (R i c))) piv.length (fun r => scale (swap R i piv.length) piv.length (Gf.inv (R i c)) r c) n, piv ++ [c]) := by
  unfold redStep
  simp only
  rw [firstFrom_eq_some (i := i) h1 (by omega) (by simpa using h3) fun k hk hk' => by rw [h k hk hk']; rfl]
  have e : swap R i piv.length piv.length c = R i c := by
    unfold swap; split
    · rename_i e; rw [e]
    · simp
  simp only [e]
  rfl

set_option maxHeartbeats 1000000 in
theorem reduce_any (g n W C cap : Nat) (β0 : Nat → Nat) (M : Mat) (w : World) (hm : Mx w g n W β0 M) (hn : n ≤ 1000000) (hW : W < 100) (hC : C ≤ W) :
    Calls Tryd.prog 75 #[.slice (some ⟨g, 0, none⟩) n cap, I (C : Int)] w fun e w' => ∃ v β, e = .returned v ∧ Reducing w w' g n W β0 β v (reduce n M C) := by
  have HM := Lib.hid hm
  clear hm
  go_enter Tryd.func75, Tryd.ntmps75
  go_wp2_with fail
  go_step3
  go_wp2_with fail
  go_step3
  go_wp2_with fail
  go_loopg [5, 11] C (fun k v i wr => ∃ (c : Nat) (β : Nat → Nat), k = C - c ∧ c ≤ C ∧ i = I c ∧ Reducing w wr g n W β0 β v (reduce n M c))
  case atStart => exact ⟨0, β0, rfl, by omega, rfl, HM.out, fun i hi => ⟨i, hi, rfl⟩, Upd.refl _ _, Vc.nil _ _ _ _⟩
  case round =>
    obtain ⟨c, β, rfl, hc, rfl, hR⟩ := hrel
    obtain ⟨va, vb, vc, rfl, hva, hvr, hvc, hvk, _⟩ := hR.piv.shape
    have HR := Lib.hid hR
    clear hR hva hvr hvk
    have hle : (reduce n M c).2.length ≤ n := (reduced n M c).ech.le
    have hstep := Lib.hid (show reduce n M (c + 1) = redStep n c (reduce n M c) from rfl)
    generalize hs : reduce n M c = s at *
    have HS0 := Lib.hid hs
    clear hs
    obtain ⟨R, piv⟩ := s
    simp only at hle
    by_cases hlt : c < C
    · go_wp2_with fail
      go_loopg [5, 7] (n - piv.length) (fun k v i w2 => ∃ r : Nat, k = n - r ∧ piv.length ≤ r ∧ r ≤ n ∧ i = I r ∧ v = .slice va piv.length vc ∧ w2 = wr ∧ ∀ q, piv.length ≤ q → q < r → R q c = 0)
      case atStart => exact ⟨piv.length, rfl, by omega, hle, rfl, rfl, rfl, fun q h1 h2 => by omega⟩
      case round =>
        obtain ⟨r, rfl, hr1, hr2, rfl, rfl, rfl, hz⟩ := hrel
        have HZ := Lib.hid hz
        clear hz
        by_cases hrn : r < n
        · have c1 : wr.cell? ⟨g, r, none⟩ = some (.slice (some ⟨β r, 0, none⟩) W W) := by have := HR.out.mx.outer.cell r hrn; simpa using this
          have c2 : wr.cell? ⟨β r, c, none⟩ = some (B (R r c)) := by have := (HR.out.mx.rows r hrn).cell c (by omega); simpa using this
          by_cases hzero : R r c = 0
          · have ez : ((R r c).toNat : Int) = 0 := by rw [hzero]; rfl
            have HZZ := Lib.hid hzero
            clear hzero
            go_wp2_with fail
            go_roundg (n - (r + 1))
            case measure => omega
            case rel =>
              exact ⟨r + 1, rfl, by omega, by omega, by go_num, rfl, rfl, fun q h1 h2 => by
                by_cases e : q = r
                · subst e; exact HZZ.out
                · exact HZ.out q h1 (by omega)⟩
          · have ez : ((R r c).toNat : Int) ≠ 0 := fun e => hzero (UInt8.toNat.inj (by simpa using e))
            have hpn : piv.length < n := by omega
            have c3 : wr.cell? ⟨g, piv.length, none⟩ = some (.slice (some ⟨β piv.length, 0, none⟩) W W) := by have := HR.out.mx.outer.cell _ hpn; simpa using this
            have f1 : wr.frozen? ⟨g, r, none⟩ = false := by have := HR.out.mx.outer.free r hrn; simpa using this
            have f3 : wr.frozen? ⟨g, piv.length, none⟩ = false := by have := HR.out.mx.outer.free _ hpn; simpa using this
            obtain ⟨x1, hx1⟩ := cell?_setCell_some (w := wr) (p := ⟨g, r, none⟩) (x := .slice (some ⟨β piv.length, 0, none⟩) W W) (q := ⟨g, piv.length, none⟩) (v := .slice (some ⟨β piv.length, 0, none⟩) W W) c3
            go_wp2_with fail
            go_region
            obtain ⟨w3, hw3⟩ : ∃ w3, w3 = ((wr.setCell ⟨g, r, none⟩ (.slice (some ⟨β piv.length, 0, none⟩) W W)).setCell ⟨g, piv.length, none⟩ (.slice (some ⟨β r, 0, none⟩) W W)).drew := ⟨_, rfl⟩
            rw [← hw3]
            have H3 := Lib.hid (show Reducing w w3 g n W β0 (swapB β r piv.length) (.slice va piv.length vc) (swap R r piv.length, piv) from hw3 ▸ (HR.out.swapped hrn hpn).drewN 1)
            have hpc := Lib.hid (swap_p R r piv.length c)
            have hcW : c < W := by omega
            have HS := Lib.hid (hstep.out.trans (redStep_some hr1 hrn hzero HZ.out))
            clear hw3 c1 c2 c3 f1 f3 hx1 ez hstep HR HZ hzero
            generalize swapB β r piv.length = β1 at *
            generalize swap R r piv.length = M1 at *
            have c1 : w3.cell? ⟨g, piv.length, none⟩ = some (.slice (some ⟨β1 piv.length, 0, none⟩) W W) := by have := H3.out.mx.outer.cell _ hpn; simpa using this
            have c2 : w3.cell? ⟨β1 piv.length, c, none⟩ = some (B (M1 piv.length c)) := by have := (H3.out.mx.rows _ hpn).cell c (by omega); simpa using this
            go_wp2_with fail
            go_still_tail 12, mixed
            still_call (inv_still _ _)
            refine wpStill_nil ?_
            change wpList _ _ _ _ _ (w3.drewN 1)
            have hrp := Lib.hid (H3.out.mx.rows _ hpn)
            go_wp2_with (go_at_call 81; refine (scale_any (β1 piv.length) W W (M1 piv.length) _ _ (hrp.out.drewN 1) (by omega)).mono ?_; rintro e w4 ⟨rfl, hd⟩; have H4 := Lib.hid (((H3.out.drewN 1).rowDone hpn hd).congr (N := scale M1 piv.length (Gf.inv (M1 piv.length c))) fun i _ j _ => by unfold scale; by_cases e : i = piv.length <;> simp [e]); clear hd)
            rw [hpc.out] at H4
            clear c1 c2 hrp H3
            generalize scale M1 piv.length (Gf.inv (R r c)) = M2 at *
            go_loopg [61] n (fun k i w5 => ∃ j : Nat, k = n - j ∧ j ≤ n ∧ i = I j ∧ Reducing w w5 g n W β0 β1 (.slice va piv.length vc) (upTo M2 piv.length (fun r => M2 r c) j, piv))
            case atStart => exact ⟨0, rfl, by omega, rfl, H4.out.congr fun i _ j _ => by simp [upTo, elim]⟩
            case round =>
              obtain ⟨j, rfl, hj, rfl, h5⟩ := hrel
              have H5 := Lib.hid h5
              clear h5 H4
              by_cases hjn : j < n
              · by_cases hjp : j = piv.length
                · have ejp : ((j : Int) != (piv.length : Int)) = false := by rw [hjp]; simp
                  have HJ := Lib.hid hjp
                  clear hjp
                  go_wp2_with fail
                  go_roundg (n - (j + 1))
                  case measure => omega
                  case rel => exact ⟨j + 1, rfl, by omega, by go_num, H5.out.congr fun i _ x _ => by
                    rw [HJ.out]; unfold upTo elim
                    by_cases e : i ≠ piv.length ∧ i < piv.length
                    · rw [if_pos e, if_pos ⟨e.1, by omega⟩]
                    · rw [if_neg e, if_neg (by omega)]⟩
                · have ejp : ((j : Int) != (piv.length : Int)) = true := by rw [bne_iff_ne]; omega
                  have HJ := Lib.hid hjp
                  clear hjp
                  have c1 : wr.cell? ⟨g, piv.length, none⟩ = some (.slice (some ⟨β1 piv.length, 0, none⟩) W W) := by have := H5.out.mx.outer.cell _ hpn; simpa using this
                  have c2 : wr.cell? ⟨g, j, none⟩ = some (.slice (some ⟨β1 j, 0, none⟩) W W) := by have := H5.out.mx.outer.cell _ hjn; simpa using this
                  have c3 : wr.cell? ⟨β1 j, c, none⟩ = some (B (M2 j c)) := by have := (H5.out.mx.rows _ hjn).cell c hcW; simp only [bs, upTo_at, Nat.zero_add] at this; exact this
                  have hcall := Lib.hid (addTo_short (some ⟨β1 piv.length, 0, none⟩) (β1 j) W W (β1 piv.length) 0 W W _ _ (M2 j c) (wr.drewN 1) ((H5.out.mx.rows _ hjn).drewN 1) (fun _ => rfl) ((H5.out.mx.rows _ hpn).rd.drewN 1) (fun _ e => HJ.out (H5.out.mx.inj _ _ hjn hpn e.symm)) (Nat.le_refl _) (by omega) hW)
                  go_wp2_with fail
                  go_still_tail 15, mixed
                  change wpList _ _ _ _ _ (wr.drewN 1)
                  go_wp2_with (go_at_call 47; refine hcall.out.mono ?_; rintro e w6 ⟨rfl, hd⟩; have H6 := Lib.hid (((H5.out.drewN 1).rowDone hjn hd).congr (N := upTo M2 piv.length (fun r => M2 r c) (j + 1)) fun i _ x hx => upTo_next HJ.out hx); clear hd)
                  go_roundg (n - (j + 1))
                  case measure => omega
                  case rel => exact ⟨j + 1, rfl, by omega, by go_num, H6.out⟩
              · obtain rfl : j = n := by omega
                have hsz : w.heap.size ≤ wr.heap.size := H5.out.upd.size
                have hpl : piv.length ≤ 1000000 := by omega
                go_wp2_with (refine wpList_append_one rfl (.tmp 84) (.tmp 86) 149 rfl w.heap.size 3 (.int .i64 0) 8 Tryd.underlying149 infoInt rfl _ piv.length _ rfl H5.out.piv (I (c : Int)) _ rfl rfl (by omega) (by omega) hsz ?_; intro v2 w6 hv2 hu2; have H6 := Lib.hid (H5.out.appended hv2 hu2); clear hv2 hu2)
                go_roundg (C - (c + 1))
                case measure => omega
                case rel => exact ⟨c + 1, β1, rfl, by omega, by go_num, by rw [HS.out]; exact H6.out⟩
        · go_wp2_with fail
          go_roundg (C - (c + 1))
          case measure => omega
          case rel =>
            refine ⟨c + 1, β, rfl, by omega, by go_num, ?_⟩
            rw [hstep.out, redStep_none hle fun q h1 h2 => HZ.out q h1 (by omega)]
            exact HR.out
    · go_wp2_with fail
      go_ret
      obtain rfl : c = C := by omega
      exact ⟨_, β, rfl, by rw [HS0.out]; exact HR.out⟩
end Go.Proofs.YthaamnjpjkkolabDoor

/- Clone. -/
namespace Go.Proofs.YthaamnjpjkkolabDoor
open Go.RowKit Go.Proofs
set_option maxRecDepth 100000
set_option linter.unusedVariables false

/-- While Clone goes on: k rows are made. -/
structure Cloning (w wr : World) (n W k : Nat) (S : Nat → Sl) : Prop where
  below : Below w.heap.size w wr
  size : wr.heap.size = w.heap.size + 1 + k
  outer : Row wr w.heap.size 0 n (fun i => if i < k then .slice (some ⟨w.heap.size + 1 + i, 0, none⟩) W W else .slice none 0 0)
  rows : ∀ i, i < k → Row wr (w.heap.size + 1 + i) 0 W (bs (padX (S i)))
  kd : ∀ i, i < k → Kd wr (w.heap.size + 1 + i) 5
  gk : Kd wr w.heap.size 28

theorem Cloning.start (w : World) (n W : Nat) (S : Nat → Sl) : Cloning w (w.alloc (.cells (madeCells #[.slice none 0 0] n) 28)) n W 0 S :=
  ⟨(Below.refl _ _).alloc (Nat.le_refl _) _, by rw [Deep.nblk_alloc], (Row.new w _ n _).congr fun i _ => by simp, fun i hi => absurd hi (by omega), fun i hi => absurd hi (by omega), Kd.new _ _ _⟩

theorem Cloning.next {w wr w2 : World} {n W k : Nat} {S : Nat → Sl} (h : Cloning w wr n W k S) (hk : k < n) (hL : (S k).n ≤ W)
    (hu : Upd (· = wr.heap.size) ((wr.alloc (.cells (madeCells #[.int .u8 0] W) 5)).setCell ⟨w.heap.size, k, none⟩ (.slice (some ⟨wr.heap.size, 0, none⟩) W W)) w2)
    (hz : w2.heap.size = ((wr.alloc (.cells (madeCells #[.int .u8 0] W) 5)).setCell ⟨w.heap.size, k, none⟩ (.slice (some ⟨wr.heap.size, 0, none⟩) W W)).heap.size)
    (hkd : KdKept ((wr.alloc (.cells (madeCells #[.int .u8 0] W) 5)).setCell ⟨w.heap.size, k, none⟩ (.slice (some ⟨wr.heap.size, 0, none⟩) W W)) w2)
    (hr : Row w2 wr.heap.size 0 W (fun i => if i < (S k).n then bs (S k).x i else .int .u8 0)) : Cloning w w2 n W (k + 1) S := by
  have e : wr.heap.size = w.heap.size + 1 + k := h.size
  have hnew : Kd (wr.alloc (.cells (madeCells #[.int .u8 0] W) 5)) wr.heap.size 5 := Kd.new _ _ _
  rw [e] at hu hz hkd hr hnew
  refine ⟨?_, ?_, ?_, fun i hi => ?_, fun i hi => ?_, ?_⟩
  · have h1 : Below w.heap.size w ((wr.alloc (.cells (madeCells #[.int .u8 0] W) 5)).setCell ⟨w.heap.size, k, none⟩ (.slice (some ⟨w.heap.size + 1 + k, 0, none⟩) W W)) :=
      (h.below.alloc (by omega) _).setCell (Nat.le_refl _) _
    exact Below.upd h1 hu (fun b hb => by omega) (by rw [Deep.nblk_setCell, Deep.nblk_alloc]; omega)
  · rw [hz, Deep.nblk_setCell, Deep.nblk_alloc]; omega
  · have h1 := (h.outer.alloc (.cells (madeCells #[.int .u8 0] W) 5)).set hk (.slice (some ⟨w.heap.size + 1 + k, 0, none⟩) W W)
    rw [Nat.zero_add] at h1
    refine (h1.upd hu fun _ => by omega).congr fun i hi => ?_
    by_cases e1 : i = k
    · subst e1; simp
    · by_cases e2 : i < k
      · simp [e1, e2, show i < k + 1 by omega]
      · simp [e1, e2, show ¬ i < k + 1 by omega]
  · by_cases e1 : i = k
    · subst e1
      refine hr.congr fun j _ => ?_
      by_cases e2 : j < (S i).n <;> simp [bs, B, padX, e2]
    · have h1 := (h.rows i (by omega)).alloc (.cells (madeCells #[.int .u8 0] W) 5)
      exact (h1.other (a := ⟨w.heap.size, k, none⟩) (by show w.heap.size ≠ _; omega) _).upd hu fun _ => by omega
  · by_cases e1 : i = k
    · subst e1
      exact hkd _ _ (hnew.set _ _)
    · exact hkd _ _ (((h.kd i (by omega)).alloc _).set _ _)
  · exact hkd _ _ ((h.gk.alloc _).set _ _)

theorem Cloning.done {w wr : World} {n W : Nat} {S : Nat → Sl} (h : Cloning w wr n W n S) : Mx wr w.heap.size n W (fun i => w.heap.size + 1 + i) (fun i => padX (S i)) :=
  ⟨h.outer.congr fun i hi => by simp [hi], h.rows, h.kd, fun i j _ _ e => by omega, h.gk⟩

set_option maxHeartbeats 400000 in
theorem clone_any (a : Option Addr) (b o n c W : Nat) (S : Nat → Sl) (w : World) (ha : 0 < n → a = some ⟨b, o, none⟩)
    (hout : Rd w b o n (fun i => (S i).v)) (hok : ∀ i, i < n → (S i).ok w) (hL : ∀ i, i < n → (S i).n ≤ W) (hn : n ≤ 1000000) (hW : W ≤ 1000000) :
    Calls Tryd.prog 76 #[.slice a n c, I (W : Int)] w fun e w' => e = .returned (.slice (some ⟨w.heap.size, 0, none⟩) n n) ∧ Cloning w w' n W n S := by
  have HO := Lib.hid hout
  have HK := Lib.hid hok
  have HL := Lib.hid hL
  clear hout hok hL
  have hmk := make_rows (n : Int) (by omega) (by omega)
  have hmb := make_bytes (W : Int) (by omega) (by omega)
  simp only [Int.toNat_natCast] at hmk hmb
  go_enter Tryd.func76, Tryd.ntmps76
  go_wp2
  go_loopw [13] (fun i wr => ∃ k : Nat, k ≤ n ∧ i = I k ∧ Cloning w wr n W k S) (fun i _ => n - (intOf i).toNat)
  case atStart => exact ⟨0, by omega, rfl, Cloning.start _ _ _ _⟩
  case round =>
    obtain ⟨k, hk, rfl, hcl⟩ := hrel
    have HC := Lib.hid hcl
    clear hcl
    by_cases hlt : k < n
    · obtain rfl := ha (by omega)
      have c1 : wr.cell? ⟨b, o + k, none⟩ = some (.slice (S k).a (S k).n (S k).c) := (HO.out.later HC.out.below) k hlt
      have c2 : ∀ ob, (wr.alloc ob).cell? ⟨w.heap.size, k, none⟩ = some (.slice none 0 0) := fun ob => by
        have := (HC.out.outer.alloc ob).cell k hlt
        simpa using this
      have f2 : ∀ ob, (wr.alloc ob).frozen? ⟨w.heap.size, k, none⟩ = false := fun ob => by
        have := (HC.out.outer.alloc ob).free k hlt
        simpa using this
      have hLk := HL.out k hlt
      have hok := Lib.hid (HK.out k hlt)
      have hsz : 0 < n → w.heap.size < wr.heap.size := fun _ => by have := HC.out.size; omega
      go_wp2_with (refine wpList_copy_fn rfl (.tmp 26) (.tmp 27) 28 28 rfl 5 Tryd.underlying28 sizeU8 _ _ _ _ _ _ rfl rfl (S k).n wr.heap.size 0 W (S k).b (S k).o (fun _ => .int .u8 0) (bs (S k).x) (by show (S k).n = min (S k).n W; omega) hLk ((Row.new _ _ _ _).other (by show w.heap.size ≠ wr.heap.size; have := hsz (by omega); omega) _) (((hok.out.rd.later HC.out.below).alloc _).other (fun h0 => by show w.heap.size ≠ _; have := hok.out.rd.lt h0; omega) _) (fun _ => rfl) hok.out.addr (fun _ _ => rfl) ?_; intro w2 hu2 hz2 hk2 hr2; have HN := Lib.hid (HC.out.next hlt hLk hu2 hz2 hk2 hr2); clear hu2 hz2 hk2 hr2)
      go_roundw
      case rel => exact ⟨k + 1, by omega, by go_num, HN.out⟩
      case measure => simp [intOf]; omega
    · go_wp2
      go_ret
      obtain rfl : k = n := by omega
      exact ⟨rfl, HC.out⟩

end Go.Proofs.YthaamnjpjkkolabDoor

/- The program's Rank. -/
namespace Go.Proofs.YthaamnjpjkkolabDoor
open Go.RowKit Go.Proofs Lin
set_option maxRecDepth 100000
set_option linter.unusedVariables false

/-- The longest of the first k rows. -/
def wid (S : Nat → Sl) : Nat → Nat
  | 0 => 0
  | k + 1 => Nat.max (wid S k) (S k).n
theorem wid_le (S : Nat → Sl) {i k : Nat} (h : i < k) : (S i).n ≤ wid S k := by
  induction k with
  | zero => omega
  | succ k ih =>
    simp only [wid]
    by_cases e : i = k
    · subst e; exact Nat.le_max_right _ _
    · exact Nat.le_trans (ih (by omega)) (Nat.le_max_left _ _)

/-- What Rank answers. -/
def rankV (n : Nat) (S : Nat → Sl) : Int := if n ≤ 64 ∧ wid S n ≤ 64 then ((reduce n (fun i => padX (S i)) (wid S n)).2.length : Int) else -1

theorem max_spell (t s : Nat) : (if t < s then (s : Int) else (t : Int)) = ((Nat.max t s : Nat) : Int) := by
  show _ = ((max t s : Nat) : Int)
  split <;> omega

theorem rankV_rows {n : Nat} {S : Nat → Sl} (h : 64 < n) : rankV n S = -1 := by unfold rankV; rw [if_neg (by omega)]
theorem rankV_wide {n : Nat} {S : Nat → Sl} (h : 64 < wid S n) : rankV n S = -1 := by unfold rankV; rw [if_neg (by omega)]
theorem rankV_ok {n : Nat} {S : Nat → Sl} (h : n ≤ 64) (h' : wid S n ≤ 64) : rankV n S = ((reduce n (fun i => padX (S i)) (wid S n)).2.length : Int) := by unfold rankV; rw [if_pos ⟨h, h'⟩]

set_option maxHeartbeats 400000 in
theorem rank_any (a : Option Addr) (b o n c : Nat) (S : Nat → Sl) (w : World) (ha : 0 < n → a = some ⟨b, o, none⟩)
    (hout : Rd w b o n (fun i => (S i).v)) (hok : ∀ i, i < n → (S i).ok w) (hn : n ≤ 1099511627776) :
    Calls Tryd.prog 68 #[.slice a n c] w fun e w' => e = .returned (I (rankV n S)) ∧ Below w.heap.size w w' := by
  have HO := Lib.hid hout
  have HK := Lib.hid hok
  clear hout hok
  go_enter Tryd.func68, Tryd.ntmps68
  go_wp2_with fail
  go_loop [3, 8] (fun m i => ∃ k : Nat, k ≤ n ∧ i = I k ∧ m = I (wid S k)) (fun _ i => n - (intOf i).toNat)
  case atStart => exact ⟨0, by omega, rfl, rfl⟩
  case round =>
    obtain ⟨k, hk, rfl, rfl⟩ := hrel
    by_cases hlt : k < n
    · obtain rfl := ha (by omega)
      have c1 : w.cell? ⟨b, o + k, none⟩ = some (.slice (S k).a (S k).n (S k).c) := HO.out k hlt
      have hw := Lib.hid (show wid S (k + 1) = Nat.max (wid S k) (S k).n from rfl)
      generalize wid S k = t at *
      go_wp2_with fail
      go_round
      case rel => exact ⟨k + 1, by omega, by go_num, by rw [hw.out, max_spell]⟩
      case measure => simp [intOf]; omega
    · obtain rfl : k = n := by omega
      by_cases h1 : k ≤ 64
      · by_cases h2 : wid S k ≤ 64
        · have hclone := Lib.hid (clone_any a b o k c (wid S k) S w ha HO.out HK.out (fun i hi => wid_le S hi) (by omega) (by omega))
          have hfin := Lib.hid (rankV_ok h1 h2)
          generalize wid S k = W at *
          go_wp2_with (go_at_call 76; refine hclone.out.mono ?_; rintro e w1 ⟨rfl, hc⟩; have HC := Lib.hid hc; clear hc)
          refine (reduce_any w.heap.size k W W k (fun i => w.heap.size + 1 + i) (fun i => padX (S i)) _ HC.out.done (by omega) (by omega) (Nat.le_refl _)).mono ?_
          rintro e w2 ⟨v, β, rfl, hr⟩
          obtain ⟨va, vb, vc, rfl, _, _, _, _, _⟩ := hr.piv.shape
          have HR := Lib.hid hr
          clear hr
          go_wp2_with fail
          go_ret
          refine ⟨ret_int hfin.out.symm, ?_⟩
          exact Below.upd HC.out.below HR.out.upd (fun b hb => by rcases hb with rfl | ⟨j, _, rfl⟩ <;> omega) HC.out.below.size
        · go_wp2_with fail
          go_ret
          exact ⟨ret_int (rankV_wide (by omega)).symm, Below.refl _ _⟩
      · go_wp2_with fail
        go_ret
        exact ⟨ret_int (rankV_rows (by omega)).symm, Below.refl _ _⟩

end Go.Proofs.YthaamnjpjkkolabDoor

/- The rank depends on the rows alone. -/
namespace Go.Proofs.YthaamnjpjkkolabDoor
open Go.RowKit Go.Proofs Lin
set_option maxRecDepth 100000
set_option linter.unusedVariables false

theorem wid_congr {S T : Nat → Sl} : ∀ {n : Nat}, (∀ i, i < n → (S i).n = (T i).n) → wid S n = wid T n
  | 0, _ => rfl
  | n + 1, h => by simp only [wid]; rw [wid_congr fun i hi => h i (by omega), h n (by omega)]

theorem rk_congr {n w : Nat} {M N : Mat} (h : ∀ i, i < n → M i = N i) : rk (Lin.Rows n M) w = rk (Lin.Rows n N) w :=
  rk_eq (fun _ ⟨i, h0, hi, e⟩ => .row ⟨i, h0, hi, e.trans (h i hi)⟩) (fun _ ⟨i, h0, hi, e⟩ => .row ⟨i, h0, hi, e.trans (h i hi).symm⟩) w

theorem rankV_congr {S T : Nat → Sl} {n : Nat} (h : ∀ i, i < n → (S i).n = (T i).n) (hx : ∀ i, i < n → padX (S i) = padX (T i)) : rankV n S = rankV n T := by
  unfold rankV
  rw [wid_congr h, reduce_rank, reduce_rank, rk_congr hx]

end Go.Proofs.YthaamnjpjkkolabDoor
