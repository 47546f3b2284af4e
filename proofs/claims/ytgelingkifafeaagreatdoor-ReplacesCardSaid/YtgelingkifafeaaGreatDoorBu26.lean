import Derived.Test.YtgelingkifafeaaGreatDoorBu25
import Derived.Test.YtgelingkifafeaaGreatDoorBu11
import Derived.Defers
import Derived.Recover
import Derived.Laws.Pointers
import Derived.Carry
/- A code in memory, whatever else turns; an archive in memory. -/
namespace Go.Proofs.YtgelingkifafeaaGreatDoor
open Go Go.RowKit Go.Proofs Lin
set_option maxRecDepth 100000
set_option linter.unusedVariables false

/-- A world without memory. -/
def wbot (w : World) : World := { w with heap := #[] }
/-- A code, that lies in memory. -/
abbrev Cd (w : World) (cb D L G : Nat) (v : Value) (β : Nat → Nat) : Prop := CodeAt (wbot w) w cb D L G v β

theorem below_bot (w : World) : Below (wbot w).heap.size (wbot w) w := ⟨rfl, rfl, rfl, Nat.zero_le _, fun k hk => by simp [wbot] at hk⟩
theorem Cd.of {w0 w : World} {cb D L G : Nat} {v : Value} {β : Nat → Nat} (h : CodeAt w0 w cb D L G v β) : Cd w cb D L G v β :=
  ⟨below_bot w, Nat.zero_le _, h.kd, h.par, h.at3, ⟨below_bot w, h.gm.vc.base (Nat.zero_le _), h.gm.row, h.gm.kd, fun _ _ => Nat.zero_le _, h.gm.up⟩⟩
/-- The blocks of a code. -/
def cdOwn (cb N : Nat) (v : Value) (β : Nat → Nat) (b : Nat) : Prop := b = cb ∨ v.ownBlock = some b ∨ ∃ j, j < N ∧ b = β j
theorem Cd.kept {w w' : World} {cb D L G : Nat} {v : Value} {β : Nat → Nat} {X : Nat → Prop} (h : Cd w cb D L G v β) (hu : Upd X w w') (hg : ∀ b, cdOwn cb (D + L + G) v β b → ¬ X b) (hD : 0 < D) : Cd w' cb D L G v β :=
  ⟨below_bot w', Nat.zero_le _, h.kd.upd hu (hg _ (.inl rfl)), h.par.upd hu (fun _ => hg _ (.inl rfl)), h.at3.upd hu (fun _ => hg _ (.inl rfl)),
    ⟨below_bot w', h.gm.vc.kept hu fun k hk => hg _ (.inr (.inl hk)), fun j hj => (h.gm.row j hj).upd hu fun _ => hg _ (.inr (.inr ⟨j, hj, rfl⟩)), fun j hj => (h.gm.kd j hj).upd hu (hg _ (.inr (.inr ⟨j, hj, rfl⟩))), fun _ _ => Nat.zero_le _, h.gm.up⟩⟩
/-- Behind what turned no block of the code's kinds. -/
theorem Cd.kinds {w w' : World} {cb D L G : Nat} {v : Value} {β : Nat → Nat} {X : Nat → Prop} (h : Cd w cb D L G v β) (hu : Upd X w w') (hg : ∀ b, X b → ∀ t, Kd w b t → t ≠ 124 ∧ t ≠ 49 ∧ t ≠ 5) (hD : 0 < D) : Cd w' cb D L G v β := by
  refine h.kept hu (fun b hb hx => ?_) hD
  rcases hb with rfl | hb | ⟨j, hj, rfl⟩
  · exact (hg _ hx _ h.kd).1 rfl
  · rcases h.gm.vc.2 with ⟨rfl, _⟩ | ⟨g, cap, cur, rfl, _, hgh, _⟩
    · simp [Value.ownBlock] at hb
    · have : g = b := by simpa [Value.ownBlock] using hb
      subst this
      exact (hg _ hx _ ⟨cur, hgh⟩).2.1 rfl
  · exact (hg _ hx _ (h.gm.kd j hj)).2.2 rfl
theorem Cd.later {w w' : World} {cb D L G : Nat} {v : Value} {β : Nat → Nat} (h : Cd w cb D L G v β) (hb : Below w.heap.size w w') (hD : 0 < D) : Cd w' cb D L G v β := h.kept (Upd.of_below hb) (fun _ _ => id) hD

/-- The kinds of an array's blocks. -/
theorem ArrAt.kind {w : World} {l : ArrL} {A : Arr} (h : ArrAt w l A) {b : Nat} (hb : l.own A.n b) {t : TypeId} (ht : Kd w b t) : t = 59 ∨ t = 63 ∨ t = 170 ∨ t = 4 := by
  have key : ∀ t', Kd w b t' → t = t' := fun t' h' => by
    rcases Nat.decEq t t' with hne | he
    · exact absurd rfl (ht.ne h' hne)
    · exact he
  rcases hb with rfl | ⟨rfl, hn⟩ | ⟨d, hd, rfl | rfl⟩
  · exact .inl (key _ h.kab)
  · exact .inr (.inl (key _ (h.kdb hn)))
  · exact .inr (.inr (.inl (key _ (h.kbk d hd))))
  · exact .inr (.inr (.inr (key _ (h.kbd d hd))))

/-- The cells of an archive. -/
def acell (ab cb kb : Nat) (h : Hd) (ov lv bv : Value) : Nat → Value := fun i =>
  if i = 0 then .pointer (some ⟨ab, 0, none⟩) else if i = 1 then .pointer (some ⟨cb, 0, none⟩) else if i = 2 then .pointer (some ⟨kb, 0, none⟩) else if i < 10 then hc h (i - 3) else if i = 10 then ov else if i = 11 then lv else bv

/-- An archive's top, its array and its code. -/
structure ArcAt (w : World) (ar cb kb : Nat) (l : ArrL) (A : Arr) (D L G : Nat) (cv : Value) (β : Nat → Nat) (h : Hd) (ov lv bv : Value) : Prop where
  top : Row w ar 0 13 (acell l.ab cb kb h ov lv bv)
  kd : Kd w ar 99
  arr : ArrAt w l A
  cd : Cd w cb D L G cv β
  right : Right D L G
  n : A.n = D + L + G
  wait : A.wait < 0

section
variable {w w' : World} {ar cb kb : Nat} {l : ArrL} {A A' : Arr} {D L G : Nat} {cv : Value} {β : Nat → Nat} {h : Hd} {ov lv bv : Value}
theorem ArcAt.notOwn (H : ArcAt w ar cb kb l A D L G cv β h ov lv bv) : ¬ l.own A.n ar := fun hb => by
  rcases H.arr.kind hb H.kd with e | e | e | e <;> exact absurd e (by decide)
/-- Behind what turned blocks of the array alone. -/
theorem ArcAt.turned (H : ArcAt w ar cb kb l A D L G cv β h ov lv bv) {X : Nat → Prop} (hu : Upd X w w') (hx : ∀ b, X b → l.own A.n b) (hA : ArrAt w' l A') (hn : A'.n = A.n) (hw : A'.wait = A.wait) : ArcAt w' ar cb kb l A' D L G cv β h ov lv bv :=
  ⟨H.top.upd hu fun _ hb => H.notOwn (hx _ hb), H.kd.upd hu fun hb => H.notOwn (hx _ hb), hA,
    H.cd.kinds hu (fun b hb t ht => by rcases H.arr.kind (hx _ hb) ht with e | e | e | e <;> subst e <;> decide) (by have := H.right.d1; omega), H.right, hn.trans H.n, by rw [hw]; exact H.wait⟩
theorem ArcAt.later (H : ArcAt w ar cb kb l A D L G cv β h ov lv bv) (hb : Below w.heap.size w w') : ArcAt w' ar cb kb l A D L G cv β h ov lv bv :=
  ⟨H.top.later hb, H.kd.later hb, H.arr.later hb, H.cd.later hb (by have := H.right.d1; omega), H.right, H.n, H.wait⟩
theorem ArcAt.c0 (H : ArcAt w ar cb kb l A D L G cv β h ov lv bv) : w.cell? ⟨ar, 0, none⟩ = some (.pointer (some ⟨l.ab, 0, none⟩)) := H.top.cell 0 (by omega)
theorem ArcAt.c1 (H : ArcAt w ar cb kb l A D L G cv β h ov lv bv) : w.cell? ⟨ar, 1, none⟩ = some (.pointer (some ⟨cb, 0, none⟩)) := H.top.cell 1 (by omega)
theorem ArcAt.hdRow (H : ArcAt w ar cb kb l A D L G cv β h ov lv bv) : Row w ar 3 7 (hc h) := by
  have := (H.top.sub (k := 3) (m := 7) (by omega))
  rw [Nat.zero_add] at this
  exact this.congr fun i hi => by
    unfold acell
    rw [if_neg (by omega), if_neg (by omega), if_neg (by omega), if_pos (by omega), Nat.add_sub_cancel_left]
theorem ArcAt.p0 (H : ArcAt w ar cb kb l A D L G cv β h ov lv bv) : w.cell? ⟨cb, 0, none⟩ = some (I D) := H.cd.par.cell 0 (by omega)
theorem ArcAt.p1 (H : ArcAt w ar cb kb l A D L G cv β h ov lv bv) : w.cell? ⟨cb, 1, none⟩ = some (I L) := H.cd.par.cell 1 (by omega)
theorem ArcAt.p2 (H : ArcAt w ar cb kb l A D L G cv β h ov lv bv) : w.cell? ⟨cb, 2, none⟩ = some (I G) := H.cd.par.cell 2 (by omega)
end
end Go.Proofs.YtgelingkifafeaaGreatDoor

/- announce: the head on all drives. -/
namespace Go.Proofs.YtgelingkifafeaaGreatDoor
open Go Go.RowKit Go.Proofs Lin
set_option maxRecDepth 100000
set_option linter.unusedVariables false

deriving instance DecidableEq for Hd
/-- A head that can be written. -/
structure Hd.ok (h : Hd) : Prop where
  D : h.D < 256
  L : h.L < 256
  G : h.G < 256
  size : h.size < 2 ^ 32
  fb : h.fb < 2 ^ 32
  fs : h.fs < 2 ^ 64
  seq : h.seq < 2 ^ 64

section
variable {P : Program}
theorem wpQuiet_valG {ops : Array Oper} {C : World → Prop} {Q : Act → Prop} {o : Oper} {rest : List Oper} {a : Act} (hw : Region.wanted o (yielded ops a.tmps) = true) (v : Value) (h : ∀ w, C w → (execOp a.eval o).run P w = .ok (.value v) w) (hk : wpQuiet P ops C Q rest (a.put o.dst v)) : wpQuiet P ops C Q (o :: rest) a := by
  unfold wpQuiet
  rw [if_pos hw]
  exact ⟨v, fun w hw => by unfold Oper.quietAt; rw [h w hw]; exact ⟨rfl, rfl⟩, hk⟩
theorem wpQuiet_load_rdG {ops : Array Oper} {C : World → Prop} {Q : Act → Prop} {o : Oper} {rest : List Oper} {a : Act} (hw : Region.wanted o (yielded ops a.tmps) = true) (ty : TypeId) (x : Operand) (ho : o.op = .load ty x)
    {b off n : Nat} {f : Nat → Value} {d : TypeDesc} (hx : a.eval x = .pointer (some ⟨b, off, none⟩)) (h : ∀ w, C w → Rd w b off n f) (hu : P.underlying ty = some d) (hd : (match d with | .struct _ | .array _ _ => true | _ => false) = true) (hi : (P.info? ty).map (·.size) = some n)
    (hk : wpQuiet P ops C Q rest (a.put o.dst (av n f))) : wpQuiet P ops C Q (o :: rest) a := by
  refine wpQuiet_valG hw _ (fun w hw => ?_) hk
  unfold execOp
  simp only [ho, hx, Instr.loadAt, Instr.sureAddr, Sem.run_bind, Sem.run_pure, Result.andThen_ok, run_load_rd (h w hw) hu hd hi]
end

set_option maxHeartbeats 400000 in
theorem eq_hd (a b : Hd) (w : World) : (binOp .eql 95 (hv a) (hv b)).run Tryz.prog w = .ok (.bool (decide (a = b))) w := by
  by_cases e : a = b
  · subst e; simp [go_sem]
  · have hd : decide (a = b) = false := decide_eq_false e
    rw [hd]
    obtain ⟨a1, a2, a3, a4, a5, a6, a7⟩ := a
    obtain ⟨b1, b2, b3, b4, b5, b6, b7⟩ := b
    simp only [Hd.mk.injEq] at e
    simp [go_sem]
    intro e1 e2 e3 e4 e5 e6 e7
    exact e ⟨by omega, by omega, by omega, by omega, by omega, by omega, by omega⟩

theorem wpQuiet_eq_hd {ops : Array Oper} {C : World → Prop} {Q : Act → Prop} {o : Oper} {rest : List Oper} {a : Act} (hw : Region.wanted o (yielded ops a.tmps) = true) (p q : Operand) (ho : o.op = .binOp .eql 95 p q 95)
    (x y : Hd) (hp : a.eval p = av 7 (hc x)) (hq : a.eval q = av 7 (hc y)) (e : Bool) (he : decide (x = y) = e) (hk : wpQuiet Tryz.prog ops C Q rest (a.put o.dst (.bool e))) : wpQuiet Tryz.prog ops C Q (o :: rest) a := by
  subst he
  refine wpQuiet_valG hw _ (fun w hw => ?_) hk
  have hm : Tryz.prog.eqGuardType Tryz.prog.depth 95 = false := by kernel_rfl
  have he := eq_hd x y w
  rw [hv_av, hv_av] at he
  unfold execOp
  simp only [ho, hp, hq, Sem.run_bind, Sem.run_pure, run_eqGuard_agg w .eql 95 p q _ _ hm, Result.andThen_ok, he]

def cFrm (h : Hd) (i : Nat) : Frm.Frm := ⟨2, i, h.seq, h.bytes⟩
/-- Has a drive this head? -/
def annB (A : Arr) (h : Hd) (i : Nat) : Bool := (A.rdF i 0).2.1 && (isHead (A.rdF i 0).1 && (decide (readH (A.rdF i 0).1 = h) && decide ((A.rdF i 0).1.shard = i)))
def Arr.wrF (A : Arr) (i b : Nat) (f : Frm.Frm) : Arr := (A.wr i b (Frm.blk f)).2
def annStep (o : Bool) (h : Hd) (A : Arr) (i : Nat) : Arr := if o then (if annB A h i then (A.rdF i 0).2.2 else (A.rdF i 0).2.2.wrF i 0 (cFrm h i)) else A.wrF i 0 (cFrm h i)
def annTo (o : Bool) (h : Hd) (A : Arr) : Nat → Arr
  | 0 => A
  | k + 1 => annStep o h (annTo o h A k) k

theorem rdF_n (A : Arr) (d b : Nat) : (A.rdF d b).2.2.n = A.n ∧ (A.rdF d b).2.2.wait = A.wait := by
  have e : (A.rdF d b).2.2 = (A.rd d b).2.2 := by unfold Arr.rdF; split <;> rfl
  rw [e]
  unfold Arr.rd
  split
  · exact ⟨rfl, rfl⟩
  · split <;> exact ⟨rfl, rfl⟩
theorem wrF_n (A : Arr) (d b : Nat) (f : Frm.Frm) : (A.wrF d b f).n = A.n ∧ (A.wrF d b f).wait = A.wait := by
  unfold Arr.wrF Arr.wr
  split <;> exact ⟨rfl, rfl⟩
theorem annStep_n (o : Bool) (h : Hd) (A : Arr) (i : Nat) : (annStep o h A i).n = A.n ∧ (annStep o h A i).wait = A.wait := by
  unfold annStep
  split
  · split
    · exact rdF_n A i 0
    · exact ⟨(wrF_n _ _ _ _).1.trans (rdF_n A i 0).1, (wrF_n _ _ _ _).2.trans (rdF_n A i 0).2⟩
  · exact wrF_n A i 0 _

theorem annTo_n (o : Bool) (h : Hd) (A : Arr) : ∀ k, (annTo o h A k).n = A.n ∧ (annTo o h A k).wait = A.wait
  | 0 => ⟨rfl, rfl⟩
  | k + 1 => ⟨(annStep_n _ _ _ _).1.trans (annTo_n o h A k).1, (annStep_n _ _ _ _).2.trans (annTo_n o h A k).2⟩

def AnnIs (w : World) (l : ArrL) (A : Arr) (o : Bool) (h : Hd) (N : Nat) (e : Ending) (w' : World) : Prop :=
  e = .returned (.tuple #[]) ∧ ArrAt w' l (annTo o h A N) ∧ Upd (l.own A.n) w w'

set_option maxHeartbeats 1000000 in
theorem announce_any (w : World) (ar cb kb : Nat) (l : ArrL) (A : Arr) (D L G : Nat) (cv : Value) (β : Nat → Nat) (h : Hd) (ov lv bv : Value) (o : Bool) (H : ArcAt w ar cb kb l A D L G cv β h ov lv bv) (hok : h.ok) :
    Calls Tryz.prog 48 #[.pointer (some ⟨ar, 0, none⟩), .bool o] w (AnnIs w l A o h (D + L + G)) := by
  have h7 := H.right.sum; have h1 := H.right.d1; have hL1 := H.right.l1
  have c1 := H.c1
  have p0 := H.p0; have p1 := H.p1; have p2 := H.p2
  have HH := Lib.hid H
  have HOk := Lib.hid hok
  have HN := Lib.hid H.n
  clear H hok
  obtain ⟨N, hN⟩ : ∃ N, N = D + L + G := ⟨_, rfl⟩
  have eN : (D : Int) + L + G = (N : Int) := by omega
  have HNe := Lib.hid hN
  rw [← hN]
  have hN16 : N ≤ 16 := by omega
  go_enter Tryz.func48, Tryz.ntmps48
  go_wp2_with fail
  refine (shards_any D L G (by omega) _).mono ?_
  rintro e w1 ⟨rfl, hb⟩
  rw [eN]
  dsimp only
  clear eN hN
  go_wp2_with fail
  have HB1 := Lib.hid hb
  clear hb c1 p0 p1 p2
  go_loopg [18] N (fun g i wr => ∃ k : Nat, g = N - k ∧ k ≤ N ∧ i = I k ∧ ArrAt wr l (annTo o h A k) ∧ Upd (l.own A.n) w wr)
  case atStart => exact ⟨0, rfl, by omega, rfl, HH.out.arr.later HB1.out, (Upd.of_below HB1.out).mono fun _ _ h => h.elim⟩
  case round =>
    obtain ⟨k, rfl, hk, rfl, hA, hu⟩ := hrel
    obtain ⟨n1, n2⟩ := annTo_n o h A k
    have HK := Lib.hid (HH.out.turned hu (fun _ h => h) hA n1 n2)
    have HU := Lib.hid hu
    clear hA hu
    by_cases hlt : k < N
    rotate_left
    · obtain rfl : N = k := by omega
      go_wp2_with fail
      refine bodyPost_ret (v := .tuple #[]) (results_none Tryz.results48 _ _ _) rfl ⟨rfl, HK.out.arr, HU.out⟩
    have HS := Lib.hid (show annTo o h A (k + 1) = annStep o h (annTo o h A k) k from rfl)
    have HNk := Lib.hid (show 0 < (annTo o h A k).n by rw [n1, HN.out]; omega)
    have HOwn := Lib.hid (show ∀ b, l.own (annTo o h A k).n b → l.own A.n b from fun b hb => by rwa [n1] at hb)
    have Hn1 := Lib.hid n1
    clear n1 n2
    generalize annTo o h A k = Ak at *
    cases o
    case' false =>
      go_upto_region 8 with fail
      obtain ⟨wz, hwz⟩ : ∃ V, V = wr := ⟨_, rfl⟩
      obtain ⟨Az, hAz⟩ : ∃ X, X = Ak := ⟨_, rfl⟩
      have HZ := Lib.hid (show ArcAt wz ar cb kb l Az D L G cv β h ov lv bv from by rw [hwz, hAz]; exact HK.out)
      have HUZ := Lib.hid (show Upd (l.own A.n) w wz from by rw [hwz]; exact HU.out)
      have HSZ := Lib.hid (show annTo false h A (k + 1) = Az.wrF k 0 (cFrm h k) from by rw [hAz, HS.out]; rfl)
      have HnZ := Lib.hid (show Az.n = A.n by rw [hAz]; exact Hn1.out)
      rw [← hwz]
      clear hwz hAz HK HU
    case' true =>
      have HR := Lib.hid (dread_any wr l Ak ar k 0 HK.out.arr HNk.out HK.out.wait HK.out.c0)
      go_upto_region 5 with (first | (go_at_call 69; refine HR.out.mono ?_; rintro e w2 ⟨rfl, hA2, hu2⟩) | (refine wpList_store_all (g := fc (Ak.rdF k 0).1) rfl 130 (.tmp 5) (.tmp 28) rfl rfl rfl (Row.box w2 47 (fc frm0) 130) a130 (fun i _ => fc_one _ i) ?_; intro w3 hu3 hs3 hk3 hr3; simp only [Act.put]))
      have hb3 : Below w2.heap.size w2 w3 := Below.upd ((Below.refl _ w2).alloc (Nat.le_refl _) _) hu3 (fun _ h => h ▸ Nat.le_refl _) (by simp)
      have HK2 := Lib.hid ((HK.out.turned hu2 (fun b hb => .inr (.inl ⟨hb, HNk.out⟩)) hA2 (rdF_n _ _ _).1 (rdF_n _ _ _).2).later hb3)
      have HU2 := Lib.hid ((HU.out.trans (hu2.mono (fun b _ hb => HOwn.out b (.inr (.inl ⟨hb, HNk.out⟩)))) (fun b hb _ => hb)).trans (Upd.of_below hb3) (fun _ h _ => h.elim) : Upd (l.own A.n) w w3)
      have HF3 := Lib.hid hr3
      clear hb3 hu2 hA2 hu3 hs3 hk3 hr3 HR HK HU
      obtain ⟨f, hf⟩ : ∃ f, f = (Ak.rdF k 0).1 := ⟨_, rfl⟩
      have HFe := Lib.hid hf
      have HnZ' := Lib.hid (show (Ak.rdF k 0).2.2.n = A.n from (rdF_n _ _ _).1.trans Hn1.out)
      rw [← hf] at HF3 ⊢
      clear hf
      cases hq1 : (Ak.rdF k 0).2.1
      case' false =>
        have HSq := Lib.hid (show annTo true h A (k + 1) = (Ak.rdF k 0).2.2.wrF k 0 (cFrm h k) from by rw [HS.out]; unfold annStep annB; rw [hq1]; rfl)
        clear hq1
        generalize (Ak.rdF k 0).2.2 = Az at *
        go_upto_region 8 with fail
        obtain ⟨wz, hwz⟩ : ∃ V, V = w3 := ⟨_, rfl⟩
        have HZ := Lib.hid (show ArcAt wz ar cb kb l Az D L G cv β h ov lv bv from by rw [hwz]; exact HK2.out)
        have HUZ := Lib.hid (show Upd (l.own A.n) w wz from by rw [hwz]; exact HU2.out)
        have HSZ := HSq
        have HnZ := HnZ'
        rw [← hwz]
        clear hwz HK2 HU2 HF3
      case' true =>
        cases hq2 : isHead f
        case' false =>
          have HRH := Lib.hid (show ∀ w, Calls Tryz.prog 67 #[fv f] w fun e w' => e = .returned (.tuple #[av 7 (hc hd0), .bool false]) ∧ Below w.heap.size w w' from fun w => by have h := readHead_any f w; unfold RHIs at h; rw [hq2] at h; exact h)
          have HSq := Lib.hid (show annTo true h A (k + 1) = (Ak.rdF k 0).2.2.wrF k 0 (cFrm h k) from by rw [HS.out]; unfold annStep annB; rw [hq1, ← HFe.out, hq2]; rfl)
          clear hq1 hq2 HFe
          generalize (Ak.rdF k 0).2.2 = Az at *
          go_upto_region 7 with (first | (refine wpList_load_rd rfl 130 (.tmp 5) rfl rfl HF3.out.rd Tryz.underlying130 rfl a130 ?_; simp only [Act.put, List.setIfInBounds_toArray, List.set_cons_succ, List.set_cons_zero]) | (go_at_call 67; refine (HRH.out _).mono ?_; rintro e w4 ⟨rfl, hb4⟩) | (refine wpList_store_all (g := hc hd0) rfl 95 (.tmp 7) (.tmp 34) rfl rfl rfl (Row.box w4 7 (hc hd0) 95) a95 (fun i hi => hc_one _ i hi) ?_; intro w5 hu5 hs5 hk5 hr5; simp only [Act.put]))
          have hb5 : Below w3.heap.size w3 w5 := hb4.trans ((Below.upd ((Below.refl _ w4).alloc (Nat.le_refl _) _) hu5 (fun _ h => h ▸ Nat.le_refl _) (by simp)).mono hb4.size)
          have HK5 := Lib.hid (HK2.out.later hb5)
          have HU5 := Lib.hid (HU2.out.trans (Upd.of_below hb5) (fun _ h _ => h.elim) : Upd (l.own A.n) w w5)
          clear hb4 hu5 hs5 hk5 hr5 hb5 HK2 HU2 HF3
          refine wp_region_quiet_lit mixed0 (by kernel_rfl) ?_
          repeat (go_big_quiet_step (fail))
          refine wpQuiet_nil ?_
          rintro _ ⟨nq, rfl⟩
          go_upto_region 8 with fail
          obtain ⟨wz, hwz⟩ : ∃ V, V = w5.drewN nq := ⟨_, rfl⟩
          have HZ := Lib.hid (show ArcAt wz ar cb kb l Az D L G cv β h ov lv bv from by rw [hwz]; exact HK5.out.later ⟨rfl, rfl, rfl, Nat.le_refl _, fun _ _ => rfl⟩)
          have HUZ := Lib.hid (show Upd (l.own A.n) w wz from by rw [hwz]; exact (HU5.out.drewN nq))
          have HSZ := HSq
          have HnZ := HnZ'
          rw [← hwz]
          clear hwz HK5 HU5
        case' true =>
          have HRH := Lib.hid (show ∀ w, Calls Tryz.prog 67 #[fv f] w fun e w' => e = .returned (.tuple #[av 7 (hc (readH f)), .bool true]) ∧ Below w.heap.size w w' from fun w => by have h := readHead_any f w; unfold RHIs at h; rw [hq2] at h; exact h)
          go_upto_region 7 with (first | (refine wpList_load_rd rfl 130 (.tmp 5) rfl rfl HF3.out.rd Tryz.underlying130 rfl a130 ?_; simp only [Act.put, List.setIfInBounds_toArray, List.set_cons_succ, List.set_cons_zero]) | (go_at_call 67; refine (HRH.out _).mono ?_; rintro e w4 ⟨rfl, hb4⟩) | (refine wpList_store_all (g := hc (readH f)) rfl 95 (.tmp 7) (.tmp 34) rfl rfl rfl (Row.box w4 7 (hc hd0) 95) a95 (fun i hi => hc_one _ i hi) ?_; intro w5 hu5 hs5 hk5 hr5; simp only [Act.put]))
          have hb45 : Below w4.heap.size w4 w5 := (Below.upd ((Below.refl _ w4).alloc (Nat.le_refl _) _) hu5 (fun _ h => h ▸ Nat.le_refl _) (by simp))
          have hb5 : Below w3.heap.size w3 w5 := hb4.trans (hb45.mono hb4.size)
          have HK5 := Lib.hid (HK2.out.later hb5)
          have HU5 := Lib.hid (HU2.out.trans (Upd.of_below hb5) (fun _ h _ => h.elim) : Upd (l.own A.n) w w5)
          have HH5 := Lib.hid hr5
          have HF5 := Lib.hid (HF3.out.later hb5)
          clear hb4 hu5 hs5 hk5 hr5 hb5 hb45 HK2 HU2 HF3
          obtain ⟨e1, he1⟩ : ∃ b, decide (readH f = h) = b := ⟨_, rfl⟩
          obtain ⟨e2, he2⟩ : ∃ b, decide (f.shard = k) = b := ⟨_, rfl⟩
          have HAB := Lib.hid (show annTo true h A (k + 1) = if e1 && e2 then (Ak.rdF k 0).2.2 else (Ak.rdF k 0).2.2.wrF k 0 (cFrm h k) from by rw [HS.out]; unfold annStep annB; rw [hq1, ← HFe.out, hq2, he1, he2]; rfl)
          have HE1 := Lib.hid he1
          have he3 : ((f.shard : Int) == (k : Int)) = e2 := by
            rw [← he2, Bool.eq_iff_iff]; simp
            constructor
            · intro h; omega
            · intro h; omega
          have f1 : ∀ n, (w5.drewN n).cell? ⟨w2.heap.size, 1, none⟩ = some (I f.shard) := fun n => HF5.out.cell 1 (by omega)
          clear hq1 hq2 he1 he2 HFe
          generalize (Ak.rdF k 0).2.2 = Az at *
          refine wp_region_quiet_lit mixed0 (by kernel_rfl) ?_
          cases e1 <;> cases e2
          case' true.true =>
            repeat (first | (refine wpQuiet_load_rdG (f := hc (readH f)) rfl 95 (.tmp 7) rfl rfl ?_ Tryz.underlying95 rfl a95 ?_; (rintro _ ⟨n, rfl⟩; exact HH5.out.rd.drewN n); simp only [Act.put, List.setIfInBounds_toArray, List.set_cons_succ, List.set_cons_zero]) | (refine wpQuiet_load_rdG (f := hc h) rfl 95 (.tmp 41) rfl rfl ?_ Tryz.underlying95 rfl a95 ?_; (rintro _ ⟨n, rfl⟩; exact HK5.out.hdRow.rd.drewN n); simp only [Act.put, List.setIfInBounds_toArray, List.set_cons_succ, List.set_cons_zero]) | (refine wpQuiet_eq_hd rfl (.tmp 38) (.tmp 42) rfl (readH f) h rfl rfl _ HE1.out ?_; simp only [Act.put, List.setIfInBounds_toArray, List.set_cons_succ, List.set_cons_zero]) | go_big_quiet_step (fail))
            refine wpQuiet_nil ?_
            rintro _ ⟨nq, rfl⟩
            go_wp2_with fail
            go_roundg (N - (k + 1))
            case measure => omega
            case rel => exact ⟨k + 1, rfl, by omega, by go_num, by rw [HAB.out]; exact (ArcAt.later (w' := w5.drewN nq) HK5.out ⟨rfl, rfl, rfl, Nat.le_refl _, fun _ _ => rfl⟩).arr, HU5.out.drewN nq⟩
          all_goals
            repeat (first | (refine wpQuiet_load_rdG (f := hc (readH f)) rfl 95 (.tmp 7) rfl rfl ?_ Tryz.underlying95 rfl a95 ?_; (rintro _ ⟨n, rfl⟩; exact HH5.out.rd.drewN n); simp only [Act.put, List.setIfInBounds_toArray, List.set_cons_succ, List.set_cons_zero]) | (refine wpQuiet_load_rdG (f := hc h) rfl 95 (.tmp 41) rfl rfl ?_ Tryz.underlying95 rfl a95 ?_; (rintro _ ⟨n, rfl⟩; exact HK5.out.hdRow.rd.drewN n); simp only [Act.put, List.setIfInBounds_toArray, List.set_cons_succ, List.set_cons_zero]) | (refine wpQuiet_eq_hd rfl (.tmp 38) (.tmp 42) rfl (readH f) h rfl rfl _ HE1.out ?_; simp only [Act.put, List.setIfInBounds_toArray, List.set_cons_succ, List.set_cons_zero]) | go_big_quiet_step (fail))
            refine wpQuiet_nil ?_
            rintro _ ⟨nq, rfl⟩
            go_upto_region 8 with fail
            obtain ⟨wz, hwz⟩ : ∃ V, V = w5.drewN nq := ⟨_, rfl⟩
            have HZ := Lib.hid (show ArcAt wz ar cb kb l Az D L G cv β h ov lv bv from by rw [hwz]; exact HK5.out.later ⟨rfl, rfl, rfl, Nat.le_refl _, fun _ _ => rfl⟩)
            have HUZ := Lib.hid (show Upd (l.own A.n) w wz from by rw [hwz]; exact (HU5.out.drewN nq))
            have HSZ := Lib.hid (show annTo true h A (k + 1) = Az.wrF k 0 (cFrm h k) from HAB.out)
            have HnZ := HnZ'
            rw [← hwz]
            clear hwz HK5 HU5 HF5 HH5 f1 he3 HAB HE1
    all_goals
      have HDa := Lib.hid (hdata_any h HOk.out.D HOk.out.L HOk.out.G HOk.out.size HOk.out.fb HOk.out.fs)
      obtain ⟨we, hwe⟩ : ∃ V, V = wz.drew := ⟨_, rfl⟩
      replace HZ := Lib.hid (show ArcAt we ar cb kb l Az D L G cv β h ov lv bv from by rw [hwe]; exact HZ.out.later (below_drew' wz))
      replace HUZ := Lib.hid (show Upd (l.own A.n) w we from by rw [hwe]; exact HUZ.out.drew)
      obtain ⟨ι, hne, wB, hBB, HWB⟩ := later_worlds we
      have HLd := Lib.hid (fun n => (HZ.out.later (hBB n)).hdRow.rd)
      have y3 : ∀ n, (wB n).cell? ⟨ar, 3, none⟩ = some (U64 h.seq) := fun n => HLd.out n 0 (by omega)
      refine wp_region_held_script [([0, 1, 2, 3, 4, 5, 6, 7, 8, 9, 10, 11, 12, 13], [14]), ([15], [])] 16 (fun V => ∃ n, V = wB n) mixed0 (by kernel_rfl) (by kernel_rfl) (fun c a d v w h => by cases d <;> exact h) (HWB.out _ (by rw [← hwe]; exact Below.refl _ _)) ?_
      rw [← hwe]
      clear hwe
      simp only [scriptW]
      simp only [pick, List.filterMap_cons, List.filterMap_nil, List.getElem?_toArray, List.getElem?_cons_succ, List.getElem?_cons_zero]
      change wpQuiet _ _ _ _ (_ :: _ :: _ :: _ :: _ :: _ :: _ :: _ :: _ :: _ :: _ :: _ :: _ :: _ :: []) _
      repeat (first | (refine wpQuiet_load_rdG (f := hc h) rfl 95 (.tmp 63) rfl rfl ?_ Tryz.underlying95 rfl a95 ?_; (rintro _ ⟨n, rfl⟩; exact HLd.out n); simp only [Act.put, List.setIfInBounds_toArray, List.set_cons_succ, List.set_cons_zero]) | go_big_quiet_step (fail))
      refine wpQuiet_nil ?_
      simp only [chainM, scriptW]
      refine wpOp_list (i := 14) rfl rfl ?_
      go_wp2_with fail
      refine (HDa.out _).mono ?_
      rintro e w6 ⟨rfl, hb6⟩
      go_wp2_with fail
      refine ⟨HWB.out _ hb6, ?_⟩
      have HZ6 := Lib.hid (HZ.out.later hb6)
      have HU6 := Lib.hid (HUZ.out.trans (Upd.of_below hb6) (fun _ h _ => h.elim) : Upd (l.own A.n) w w6)
      clear hb6 HZ HUZ y3
      change wpQuiet _ _ _ _ (_ :: []) _
      refine wpQuiet_build rfl 130 [(0, .const (.int .u8 2)), (1, .tmp 55), (2, .tmp 60), (3, .tmp 65)] rfl _ rfl _ (build_frame4 2 k h.seq h.bytes) ?_
      simp only [Act.put, List.setIfInBounds_toArray, List.set_cons_succ, List.set_cons_zero]
      refine wpQuiet_nil ?_
      simp only [List.drop_succ_cons, List.drop_zero]
      have HDW := Lib.hid (dwrite_any w6 l Az ar k 0 (cFrm h k) (by show k < 256; omega) HOk.out.seq HZ6.out.arr HZ6.out.wait HZ6.out.c0 HZ6.out.notOwn)
      go_wp2_with (go_at_call 38; refine HDW.out.mono ?_; rintro e w7 ⟨v7, rfl, _, hA7, hu7⟩)
      go_roundg (N - (k + 1))
      case measure => omega
      case rel => exact ⟨k + 1, rfl, by omega, by go_num, by rw [HSZ.out]; exact hA7, HU6.out.trans hu7 (fun b hb _ => .inr (.inr ⟨k, by have := hb.1; rw [HnZ.out] at this; exact this, hb.2⟩))⟩
end Go.Proofs.YtgelingkifafeaaGreatDoor

/- guarded: a call, a lack of power told as an error. -/
namespace Go.Proofs.YtgelingkifafeaaGreatDoor
open Go Go.RowKit Go.Proofs Lin
set_option maxRecDepth 100000
set_option linter.unusedVariables false

theorem eq_nil20 (w : World) : (binOp .eql 20 .nilIface .nilIface).run Tryz.prog w = .ok (.bool true) w := by kernel_rfl

theorem guard_idle (p : Addr) (w : World) :
    CallsD Tryz.prog 46 #[.pointer (some p)] .returning w fun e u' w' => e = .returned (.tuple #[]) ∧ u' = .returning ∧ w' = w := by
  refine callsD_of_wpS Tryz.func46 rfl fun c₀ cs hu => ?_
  apply wpS_seq
  apply wpS_region
  simp [wpOpsS, go_sem, recoverD, hu, Tryz.ntmps46, Exit.thenS]
  refine wpS_of_wp ?_
  have e0 := eq_nil20
  change Code.wp _ _ _ { tmps := #[.pointer (some p), undef, undef, undef, .nilIface, undef, undef, undef, undef, undef, undef, undef], defers := [] } _
  go_wp2_with fail
  cases c₀
  simp_all [bodyPostS, results, Tryz.results46]

set_option maxHeartbeats 400000 in
theorem guarded_any (f : FuncId) (c1 c2 args : Array Value) (hargs : c1 ++ c2 = args) (heg : ∀ w, (callFunc f args).run Tryz.prog w = .ok (.enter f args) w) (w : World) (X : Nat → Prop) (R : Value → World → Prop) (hX : ∀ b, X b → b < w.heap.size)
    (hc : ∀ w1, Below w.heap.size w w1 → w1.heap.size = w.heap.size + 1 → Calls Tryz.prog f args w1 fun e w2 => ∃ v, e = .returned v ∧ (v = .nilIface ∨ ∃ t x, v = .iface t x) ∧ Upd X w1 w2 ∧ R v w2) :
    Calls Tryz.prog 30 #[.func (.func f) c1 c2] w fun e w' => ∃ v w2, e = .returned v ∧ (v = .nilIface ∨ ∃ t x, v = .iface t x) ∧ Upd X w w2 ∧ w.heap.size < w2.heap.size ∧ R v w2 ∧ w' = w2.setCell ⟨w.heap.size, 0, none⟩ v := by
  have hb0 : Below w.heap.size w (w.alloc (.cells #[.nilIface] 29)) := (Below.refl _ w).alloc (Nat.le_refl _) _
  have HC := Lib.hid (hc _ hb0 (World.size_alloc ..))
  have HR0 := Lib.hid (Row.lit w #[.nilIface] 29)
  have HB0 := Lib.hid hb0
  have hmf : ∀ (fn : Fn) (first cap : Array Value) (w : World), (Instr.makeFunc fn first cap).run Tryz.prog w = .ok (.func fn first cap) w := fun _ _ _ _ => rfl
  clear hc hb0
  go_enter_defers Tryz.func30, Tryz.ntmps30
  go_wp2_with fail
  refine HC.out.mono ?_
  rintro e w2 ⟨v, rfl, hv, hu, hR⟩
  have hr2 := HR0.out.upd hu (fun _ hx => by have := hX _ hx; omega)
  have c0 : w2.cell? ⟨w.heap.size, 0, none⟩ = some .nilIface := hr2.cell 0 (by simp)
  have f0 : w2.frozen? ⟨w.heap.size, 0, none⟩ = false := hr2.free 0 (by simp)
  have HU := Lib.hid ((((Upd.of_below HB0.out).mono fun _ _ h => h.elim).trans hu (fun _ h _ => h)) : Upd X w w2)
  have hz := hu.size
  rw [World.size_alloc] at hz
  have HR := Lib.hid hR
  have HV := Lib.hid hv
  have d0 : (w2.setCell ⟨w.heap.size, 0, none⟩ v).cell? ⟨w.heap.size, 0, none⟩ = some v := cell_set_same c0 v
  clear hu hR hr2
  rcases hv with rfl | ⟨t, x, rfl⟩
  all_goals
    go_wp2_with fail
    refine leaves_cons (f := 46) (args := #[.pointer (some ⟨w.heap.size, 0, none⟩)]) (by simp) (by simp [go_sem]) ?_
    refine (guard_idle ⟨w.heap.size, 0, none⟩ _).mono ?_
    rintro e u' w'' ⟨rfl, rfl, rfl⟩
    simp [Leaves, settle, results, Tryz.results30, go_sem, d0]
    exact ⟨w2, HU.out, by omega, HR.out, rfl⟩
end Go.Proofs.YtgelingkifafeaaGreatDoor

/- recent.New. -/
namespace Go.Proofs.YtgelingkifafeaaGreatDoor
open Go Go.RowKit Go.Proofs Lin
set_option maxRecDepth 100000
set_option linter.unusedVariables false

/-- The cells of what keeps plans; a1, a2: the ring's head. -/
def kcell (n : Int) (mb : Nat) (key : Nat) (rg : Int) (sv a1 a2 : Value) : Nat → Value := fun i => ([I n, .map (some mb), U64 key, I rg, sv, a1, a2] : List Value).getD i (.bool false)

set_option maxHeartbeats 1000000 in
theorem keptNew_any (n : Int) (w : World) : Calls Tryz.prog 29 #[I n] w fun e w' => e = .returned (.pointer (some ⟨w.heap.size + 1, 0, none⟩)) ∧ Below w.heap.size w w' ∧ w'.heap.size = w.heap.size + 2 ∧
    Row w' (w.heap.size + 1) 0 7 (kcell n w.heap.size 0 0 (.slice none 0 0) (.pointer (some ⟨w.heap.size + 1, 2, none⟩)) (.pointer (some ⟨w.heap.size + 1, 2, none⟩))) ∧ w'.heap[w.heap.size]? = some (.map #[] 0) := by
  have hmk := run_makeMap (P := Tryz.prog) 137 w
  have HB := Lib.hid (((Below.refl w.heap.size w).alloc (Nat.le_refl _) (.map #[] 0)).alloc (by simp) (.cells #[I n, .map (some w.heap.size), U64 0, I 0, .slice none 0 0, .pointer none, .pointer none] 142))
  have HR := Lib.hid (show Row ((w.alloc (.map #[] 0)).alloc (.cells #[I n, .map (some w.heap.size), U64 0, I 0, .slice none 0 0, .pointer none, .pointer none] 142)) (w.heap.size + 1) 0 7 (kcell n w.heap.size 0 0 (.slice none 0 0) (.pointer none) (.pointer none)) from by
    have h := Row.lit (w.alloc (.map #[] 0)) #[I n, .map (some w.heap.size), U64 0, I 0, .slice none 0 0, .pointer none, .pointer none] 142
    rw [World.size_alloc] at h
    exact h.congr fun i hi => by match i, hi with | 0, _ | 1, _ | 2, _ | 3, _ | 4, _ | 5, _ | 6, _ => rfl)
  have HM := Lib.hid (show ((w.alloc (.map #[] 0)).alloc (.cells #[I n, .map (some w.heap.size), U64 0, I 0, .slice none 0 0, .pointer none, .pointer none] 142)).heap[w.heap.size]? = some (.map #[] 0) from by
    rw [Deep.blk_alloc_lt _ _ _ (by simp), Deep.blk_alloc_new])
  have hz : ((w.alloc (.map #[] 0)).alloc (.cells #[I n, .map (some w.heap.size), U64 0, I 0, .slice none 0 0, .pointer none, .pointer none] 142)).heap.size = w.heap.size + 2 := by simp
  go_enter Tryz.func29, Tryz.ntmps29
  go_upto_region 2 with fail
  generalize (w.alloc (.map #[] 0)).alloc (.cells #[I n, .map (some w.heap.size), U64 0, I 0, .slice none 0 0, .pointer none, .pointer none] 142) = w2 at *
  obtain ⟨we, hwe⟩ : ∃ V, V = w2.drew := ⟨_, rfl⟩
  replace HR := Lib.hid (show Row we _ _ _ _ from hwe ▸ HR.out.drew)
  replace HB := Lib.hid (show Below w.heap.size w we from hwe ▸ (HB.out.trans ((below_drew' w2).mono HB.out.size)))
  replace HM := Lib.hid (show we.heap[w.heap.size]? = some (.map #[] 0) from hwe ▸ HM.out)
  replace hz : we.heap.size = w.heap.size + 2 := hwe ▸ hz
  obtain ⟨κ, hnk, wB, hBB, HWB⟩ := upd_worlds (· = w.heap.size + 1) we
  obtain ⟨p0, hp0⟩ : ∃ p : Value, p = .pointer (some ⟨w.heap.size + 1, 2, none⟩) := ⟨_, rfl⟩
  obtain ⟨S, hS⟩ : ∃ S : (Nat → Bool) → World → Prop, ∀ L V, S L V ↔ (Upd (· = w.heap.size + 1) we V ∧ V.heap.size = we.heap.size ∧ Row V (w.heap.size + 1) 0 7 (kcell n w.heap.size 0 0 (.slice none 0 0) (if L 11 then p0 else .pointer none) (if L 15 then p0 else .pointer none))) := ⟨_, fun _ _ => Iff.rfl⟩
  have HS := Lib.hid hS
  have HSn := Lib.hid (fun j (h1 : j ≠ 11) (h2 : j ≠ 15) L V (h : S L V) => show S (setL j L) V from (hS _ _).2 (by have h := (hS _ _).1 h; rwa [setL_ne h1, setL_ne h2]))
  refine wp_region_I S mixed0 (by kernel_rfl) (by rw [← hwe]; exact (hS _ _).2 ⟨Upd.refl _ _, rfl, HR.out⟩) ?_
  clear hwe hS
  have HP0 := Lib.hid hp0
  clear hp0
  refine wpI_reads (C := fun V => ∃ n, V = wB n) 11 (by decide) rfl (fun L V h => HWB.out V ((HS.out _ _).1 h).1) (fun j h1 h2 => HSn.out j (by omega) (by omega)) ?_
  simp only [List.drop_zero, List.take_succ_cons, List.take_zero]
  repeat (go_big_quiet_step (fail))
  refine wpQuiet_nil ?_
  simp only [Nat.zero_add]
  refine wpI_eff rfl rfl undef ?_ ?_
  · intro L V hL _ hS
    obtain ⟨h1, h2, h3⟩ := (HS.out _ _).1 hS
    rw [hL] at h3
    have c0 : V.cell? ⟨w.heap.size + 1, 5, none⟩ = some (.pointer none) := h3.cell 5 (by omega)
    have f0 : V.frozen? ⟨w.heap.size + 1, 5, none⟩ = false := h3.free 5 (by omega)
    have H1 := Lib.hid h1
    have H2 := Lib.hid h2
    have H3 := Lib.hid h3
    clear h1 h2 h3 hS hL
    go_wp2_with fail
    refine (HS.out (setL 11 L) _).2 ⟨H1.out.trans ((Upd.refl (· = w.heap.size + 1) V).at1 5 _) (fun _ h _ => h), (World.size_setCell ..).trans H2.out, ?_⟩
    rw [setL_eq, setL_ne (by omega), HP0.out]
    have h := H3.out.set (i := 5) (by omega) (.pointer (some ⟨w.heap.size + 1, 2, none⟩))
    rw [Nat.zero_add] at h
    refine h.congr fun i hi => ?_
    rw [HP0.out]
    match i, hi with | 0, _ | 1, _ | 2, _ | 3, _ | 4, _ | 5, _ | 6, _ => rfl
  simp only [Act.put, List.setIfInBounds_toArray, List.set_cons_succ, List.set_cons_zero]
  refine wpI_reads (C := fun V => ∃ n, V = wB n) 3 (by decide) rfl (fun L V h => HWB.out V ((HS.out _ _).1 h).1) (fun j h1 h2 => HSn.out j (by omega) (by omega)) ?_
  simp only [List.drop_succ_cons, List.drop_zero, List.take_succ_cons, List.take_zero]
  repeat (go_big_quiet_step (fail))
  refine wpQuiet_nil ?_
  refine wpI_eff rfl rfl undef ?_ ?_
  · intro L V hL _ hS
    obtain ⟨h1, h2, h3⟩ := (HS.out _ _).1 hS
    rw [hL] at h3
    have c0 : V.cell? ⟨w.heap.size + 1, 6, none⟩ = some (.pointer none) := h3.cell 6 (by omega)
    have f0 : V.frozen? ⟨w.heap.size + 1, 6, none⟩ = false := h3.free 6 (by omega)
    have H1 := Lib.hid h1
    have H2 := Lib.hid h2
    have H3 := Lib.hid h3
    clear h1 h2 h3 hS hL
    go_wp2_with fail
    refine (HS.out (setL 15 L) _).2 ⟨H1.out.trans ((Upd.refl (· = w.heap.size + 1) V).at1 6 _) (fun _ h _ => h), (World.size_setCell ..).trans H2.out, ?_⟩
    rw [setL_eq, setL_ne (by omega), HP0.out]
    have h := H3.out.set (i := 6) (by omega) (.pointer (some ⟨w.heap.size + 1, 2, none⟩))
    rw [Nat.zero_add] at h
    refine h.congr fun i hi => ?_
    rw [HP0.out]
    match i, hi with | 0, _ | 1, _ | 2, _ | 3, _ | 4, _ | 5, _ | 6, _ => rfl
  simp only [Act.put, List.setIfInBounds_toArray, List.set_cons_succ, List.set_cons_zero]
  refine wpI_end (by decide) ?_
  intro L V hall hS
  obtain ⟨h1, h2, h3⟩ := (HS.out _ _).1 hS
  rw [hall 11 (by decide), hall 15 (by decide), HP0.out] at h3
  have H1 := Lib.hid h1
  have H2 := Lib.hid h2
  have H3 := Lib.hid h3
  clear h1 h2 h3 hS hall
  go_wp2_with fail
  go_ret
  refine ⟨rfl, Below.upd HB.out H1.out (fun _ h => by omega) HB.out.size, H2.out.trans hz, H3.out.congr fun i hi => rfl, ?_⟩
  rw [H1.out.block _ (by omega) (by omega)]; exact HM.out
end Go.Proofs.YtgelingkifafeaaGreatDoor
