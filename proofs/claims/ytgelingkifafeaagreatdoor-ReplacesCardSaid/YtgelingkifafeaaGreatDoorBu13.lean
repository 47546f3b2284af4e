import Derived.Test.YtgelingkifafeaaGreatDoorBu02
import Derived.OrdersIn
import Derived.StillTail
import Derived.StillTactics
/- A region that draws and holds no call of a Go function, inside a fence, by its plain walk. -/
namespace Go.Proofs.YtgelingkifafeaaGreatDoor
open Go

/-- Operations that call no Go function, whatever the world. -/
def dullB (o : Oper) : Bool :=
  match o.op with
  | .move _ | .assign _ | .load _ _ | .store _ _ _ | .fieldAddr _ _ _ | .indexAddr _ _ _ | .buildSlice _ _ _ | .nilCheck _ => true
  | .call c => (match c.callee with | .builtin .append => true | _ => false)
  | _ => false

def Calm (r : Result Next) : Prop := (∃ v w', r = .ok (.value v) w') ∨ (∃ w', r = .ok .skip w') ∨ ∃ h w', r = .halt h w'

theorem calm_value {P : Program} (s : Sem Value) (w : World) : Calm ((do pure (.value (← s)) : Sem Next).run P w) := by
  simp only [Sem.run_bind, Sem.run_pure]
  cases s.run P w with
  | ok v w' => exact .inl ⟨v, w', rfl⟩
  | halt h w' => exact .inr (.inr ⟨h, w', rfl⟩)
theorem calm_unit {P : Program} (s : Sem Unit) (w : World) : Calm ((do s; pure .skip : Sem Next).run P w) := by
  simp only [Sem.run_bind, Sem.run_pure]
  cases s.run P w with
  | ok v w' => exact .inr (.inl ⟨w', rfl⟩)
  | halt h w' => exact .inr (.inr ⟨h, w', rfl⟩)
theorem calm_pure {P : Program} (v : Value) (w : World) : Calm ((pure (.value v) : Sem Next).run P w) := .inl ⟨v, w, rfl⟩

theorem calm_op {P : Program} {o : Oper} (hd : dullB o = true) (ρ : Operand → Value) (w : World) : Calm ((execOp ρ o).run P w) := by
  unfold execOp
  cases ho : o.op with
  | move x => exact calm_pure _ w
  | assign x => exact calm_pure _ w
  | load t a => exact calm_value _ w
  | store t a x => exact calm_unit _ w
  | fieldAddr s x f => exact calm_value _ w
  | indexAddr t x i => exact calm_value _ w
  | buildSlice t n parts => exact calm_value _ w
  | nilCheck x =>
    simp only []
    have hp : Calm ((runtimePanic .nilDeref : Sem Next).run P w) := by
      refine .inr (.inr ?_)
      unfold runtimePanic
      simp only [Sem.run_bind]
      cases (program).run P w with
      | ok p w' => exact ⟨_, _, rfl⟩
      | halt h w' => exact ⟨_, _, rfl⟩
    split
    · exact hp
    · exact hp
    · exact hp
    · split
      · exact hp
      · simp only [Sem.run_bind]
        cases (program).run P w with
        | halt h w' => exact .inr (.inr ⟨_, _, rfl⟩)
        | ok p w' =>
          simp only [Result.andThen]
          generalize (nilAhead _ _ _ _).run P w' = r
          cases r with
          | halt h w' => exact .inr (.inr ⟨_, _, rfl⟩)
          | ok b w2 =>
            dsimp only
            split
            · exact .inr (.inr ⟨_, _, rfl⟩)
            · exact calm_pure _ w2
      · exact calm_pure _ w
    · exact calm_pure _ w
  | call c =>
    cases hc : c.callee with
    | builtin b =>
      cases b with
      | append =>
        simp only [Sem.run_bind, resolve, hc, Sem.run_pure, Result.andThen, invoke, builtin]
        generalize (Builtin.append_ _ _ _).run P w = r
        cases r with
        | ok v w' => exact .inl ⟨v, w', rfl⟩
        | halt h w' => exact .inr (.inr ⟨h, w', rfl⟩)
      | _ => simp [dullB, ho, hc] at hd
    | _ => simp [dullB, ho, hc] at hd
  | _ => simp [dullB, ho] at hd

theorem dull_about {P : Program} {o : Oper} (hd : dullB o = true) (ρ : Operand → Value) (w : World) : ∀ f, o.about P w ρ = some f → False := by
  intro f hf
  unfold Oper.about at hf
  cases ho : o.op with
  | call c =>
    cases hc : c.callee with
    | builtin b =>
      simp [ho, resolve, hc, Sem.run_pure, Target.leads] at hf
    | _ => simp [dullB, ho, hc] at hd
  | _ => simp [ho] at hf

theorem dull_defer {o : Oper} (hd : dullB o = true) : ∀ c, o.op ≠ .defer c := by
  intro c h; simp [dullB, h] at hd

section
variable {F : Fence} {n : Nat} {P : Program} {ops : Array Oper} {Q : Exit → Act → World → Prop} {md : Region.Mode}

theorem wpOpIn_of_dull (hd : ∀ (i : Nat) (o : Oper), ops[i]? = some o → dullB o = true) (hQ : ¬ LetsOut Q) {i : Nat} {a : Act} {w : World} {K K' : Act → World → Prop} (hK : ∀ a w, K a w → K' a w)
    (h : wpOp P ops Q i K a w) : wpOpIn F n P ops Q i K' a w := by
  unfold wpOp at h
  unfold wpOpIn
  cases ho : ops[i]? with
  | none => simp only [ho] at h; exact hK _ _ h
  | some o =>
    simp only [ho] at h ⊢
    have hdo := hd i o ho
    by_cases hw : Region.wanted o (yielded ops a.tmps) = true
    · simp only [hw, if_true] at h ⊢
      rcases h with h | h
      · refine ⟨fun f hf => (dull_about hdo _ _ f hf).elim, ?_⟩
        rw [Oper.semAt_eq _ _ _ (dull_defer hdo)]
        unfold Oper.wp at h
        rcases calm_op (P := P) hdo a.eval w with ⟨v, w', e⟩ | ⟨w', e⟩ | ⟨x, w', e⟩
        · rw [e] at h ⊢; exact hK _ _ h
        · rw [e] at h ⊢; exact hK _ _ h
        · rw [e] at h ⊢
          cases x <;> exact h
      · exact absurd h.2 hQ
    · simp only [hw] at h ⊢
      exact ⟨fun f hf => (dull_about hdo _ _ f hf).elim, hK _ _ h⟩

theorem wpAnyIn_of_dull (hd : ∀ (i : Nat) (o : Oper), ops[i]? = some o → dullB o = true) (hQ : ¬ LetsOut Q) : ∀ (g : Nat) (listed : Array Bool) (a : Act) (w : World), wpAny P md ops Q g listed a w → wpAnyIn F n P md ops Q g listed a w
  | 0, _, _, _, h => h
  | g + 1, _, _, _, h => ⟨h.1, fun i hi => wpOpIn_of_dull hd hQ (fun a' w' h' => wpAnyIn_of_dull hd hQ g _ a' w' h') (h.2 i hi)⟩

/-- Such a region: reads first, in whatever order; what ends it by its plain walk. -/
theorem wpIn_region_still_tail {id : Nat} {a : Act} {w : World} {l : List Oper} (m : Nat) (hm : P.follows .mixedOrders = true) (hB : Region.lexTailB .any l.toArray m = true)
    (hd : l.all dullB = true) (hQ : ¬ LetsOut Q)
    (h : wpStill P l.toArray { w with drawn := w.drawn + 1 } (fun a' => wpList P l.toArray Q (l.drop m) a' { w with drawn := w.drawn + 1 }) (l.take m) a) : (Code.region id l.toArray true).wpIn F n P Q a w := by
  have hd' : ∀ (i : Nat) (o : Oper), l.toArray[i]? = some o → dullB o = true := fun i o ho => List.all_eq_true.1 hd o (by
    have : l[i]? = some o := by simpa using ho
    exact List.mem_of_getElem? this)
  refine wpIn_region_any hm (wpAnyIn_of_dull hd' hQ _ _ _ _ ?_)
  simp only [Region.lexTailB, Bool.and_eq_true, decide_eq_true_eq] at hB
  obtain ⟨⟨⟨⟨hsel, hn⟩, hs⟩, hc⟩, hlex⟩ := hB
  have hn' : m < l.length := by simpa using hn
  have htl : (l.take m).length = m := by simp; omega
  have hdl : (l.drop m).length = l.toArray.size - m := by simp
  have inv0 : HeadInv .any l.toArray m (Array.replicate l.toArray.size false) :=
    ⟨by simp, fun j oj _ hl => (by rw [getD_replicate_false] at hl; cases hl), fun t _ ht => getD_in (by simpa using ht) (getD_replicate_false _ _)⟩
  have H := wpAnyL_lex (md := .any) (g := l.toArray.size - m) hsel hs hc hn (l.take m) 0 _ a (fun j hj => by
    have hj' : j < m := by rw [htl] at hj; exact hj
    simp [hj']) (by simpa using htl) inv0 (by rw [htl]; exact hlex) h
  have := wpAny_of_head (Q' := Q) (g := l.toArray.size - m) (fun listed a' hL => by
    have := wpAny_of_seq (md := .any) (Q' := Q) (l.drop m) m listed a' { w with drawn := w.drawn + 1 } (fun j => by simp [List.getElem?_drop]) (by rw [hdl]; exact hL.1) hL.2
    rwa [hdl] at this) _ _ _ H
  rw [htl, show m + (l.toArray.size - m) = l.toArray.size by omega] at this
  exact this
end
end Go.Proofs.YtgelingkifafeaaGreatDoor
