import Derived.Test.YthaamnjpjkkolaaDoorHeld
import Derived.Deep.Quiet
/- A region that draws: reads, one operation that makes memory and of which the reads need not know, then a sequence that waits for all: the reads by the quiet walk. -/
namespace Go.Proofs.YthaamnjpjkkolaaDoor
open Go

/-- Operations that only read. -/
def readB (o : Oper) : Bool :=
  match o.op with
  | .move _ | .assign _ | .load _ _ | .fieldAddr _ _ _ | .indexAddr _ _ _ | .build _ _ | .convert _ _ _ | .binOp _ _ _ _ _ | .unOp _ _ _ | .pick _ _ _ | .extract _ _ => true
  | .call c => (match c.callee with | .builtin .len => true | _ => false)
  | _ => false

def Plain (r : Result Next) : Prop := (∃ v w', r = .ok (.value v) w') ∨ ∃ h w', r = .halt h w'
theorem plain_value {P : Program} (s : Sem Value) (w : World) : Plain ((do pure (.value (← s)) : Sem Next).run P w) := by
  simp only [Sem.run_bind, Sem.run_pure]
  cases s.run P w with
  | ok v w' => exact .inl ⟨v, w', rfl⟩
  | halt h w' => exact .inr ⟨h, w', rfl⟩
theorem plain_pure {P : Program} (v : Value) (w : World) : Plain ((pure (.value v) : Sem Next).run P w) := .inl ⟨v, w, rfl⟩

theorem plain_op {P : Program} {o : Oper} (hd : readB o = true) (ρ : Operand → Value) (w : World) : Plain ((execOp ρ o).run P w) := by
  unfold execOp
  cases ho : o.op with
  | move x => exact plain_pure _ w
  | assign x => exact plain_pure _ w
  | load t a => exact plain_value _ w
  | fieldAddr s x f => exact plain_value _ w
  | indexAddr t x i => exact plain_value _ w
  | build t parts => exact plain_value _ w
  | convert s d x => exact plain_value _ w
  | binOp b t x y u => exact plain_value _ w
  | unOp u t x => exact plain_value _ w
  | pick c x y =>
    dsimp only
    simp only [Sem.run_bind, Sem.run_pure]
    cases (asBool (ρ c)).run P w with
    | ok v w' => exact .inl ⟨_, w', rfl⟩
    | halt h w' => exact .inr ⟨h, w', rfl⟩
  | extract x i => dsimp only; exact plain_value _ w
  | call c =>
    cases hc : c.callee with
    | builtin b =>
      cases b with
      | len =>
        simp only [Sem.run_bind, resolve, hc, Sem.run_pure, Result.andThen, invoke, builtin]
        generalize (Builtin.len_ _ _ _).run P w = r
        cases r with
        | ok v w' => exact .inl ⟨v, w', rfl⟩
        | halt h w' => exact .inr ⟨h, w', rfl⟩
      | _ => simp [readB, ho, hc] at hd
    | _ => simp [readB, ho, hc] at hd
  | _ => simp [readB, ho] at hd

section
variable {P : Program} {ops : Array Oper} {S : World → Prop}
theorem reads_of_quiet {K : Act → Prop} : ∀ (l : List Oper) (a : Act), l.all readB = true → wpQuiet P ops S K l a → wpReads P ops S K l a
  | [], _, _, h => h
  | o :: l, a, hd, h => by
    simp only [List.all_cons, Bool.and_eq_true] at hd
    unfold wpQuiet at h
    by_cases hw : Region.wanted o (yielded ops a.tmps) = true
    · rw [if_pos hw] at h
      obtain ⟨v, h1, h2⟩ := h
      refine ⟨v, .inl ⟨hw, fun w hS => ?_⟩, reads_of_quiet l _ hd.2 h2⟩
      have h3 := h1 w hS
      unfold Oper.quietAt at h3
      rcases plain_op (P := P) hd.1 a.eval w with ⟨u, w', e⟩ | ⟨x, w', e⟩
      · rw [e] at h3 ⊢
        obtain ⟨rfl, rfl⟩ := h3
        rfl
      · rw [e] at h3
        exact h3.elim
    · rw [if_neg hw] at h
      exact ⟨undef, .inr ⟨by simpa using hw, rfl⟩, reads_of_quiet l _ hd.2 h⟩

theorem wp_region_held_quiet {id : Nat} {Q : Exit → Act → World → Prop} {l : List Oper} {a : Act} {w : World} (m : Nat) (S : World → Prop) (hm : P.follows .mixedOrders = true) (hB : heldTailB .any l.toArray m = true) (hr : (l.take m).all readB = true)
    (hQ : ∀ c a d v w, Q (.panic c) (Act.put a d v) w → Q (.panic c) a w) (hS : S w.drew)
    (h : wpQuiet P l.toArray S (fun a' => wpOp P l.toArray Q m (fun a2 w2 => S w2 ∧ wpList P l.toArray Q (l.drop (m + 1)) a2 w2) a' w.drew) (l.take m) a) :
    (Code.region id l.toArray true).wp P Q a w :=
  wp_region_any hm (wpAny_held_tail m hB hS hQ (reads_of_quiet _ _ hr h))
end

/-- Two worlds under one name. -/
theorem two_worlds (W0 W1 : World) : ∃ f : Nat → World, f 0 = W0 ∧ f 1 = W1 ∧ ∀ Q : World → Prop, Q W0 → Q W1 → ∀ n, Q (f n) :=
  ⟨fun n => if n = 0 then W0 else W1, rfl, rfl, fun Q h0 h1 n => by by_cases e : n = 0 <;> simp [e, h0, h1]⟩
theorem cell_alloc' {W : World} {p : Addr} {v : Value} (h : W.cell? p = some v) (o : Obj) : (W.alloc o).cell? p = some v :=
  (World.cell?_of_block (Deep.blk_alloc_lt _ _ _ (World.block_lt_of_cell? _ _ h))).trans h
end Go.Proofs.YthaamnjpjkkolaaDoor
