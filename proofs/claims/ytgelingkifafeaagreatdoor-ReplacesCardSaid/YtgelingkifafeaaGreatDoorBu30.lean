import Derived.Test.YtgelingkifafeaaGreatDoorBu26
import Derived.Test.YtgelingkifafeaaGreatDoorBu29
/- heads: what the drives tell. -/
namespace Go.Proofs.YtgelingkifafeaaGreatDoor
open Go Go.RowKit Go.Proofs Lin
set_option maxRecDepth 100000
set_option linter.unusedVariables false

structure HdSt where
  latest : Hd
  found : Bool
  fresh : Bool
  other : Nat
  A : Arr
def zeroB (x : Nat → UInt8) : Bool := (List.range 64).all fun j => x j == 0
/-- Is it a head of this drive? -/
def headAt (x : Nat → UInt8) (i : Nat) : Bool := Frm.okB x && (isHead (Frm.read x) && decide ((Frm.read x).shard = i))
def hdStep (s : HdSt) (i : Nat) : HdSt :=
  if (s.A.rd i 0).1.isSome then { s with other := s.other ||| 2 ^ i, A := (s.A.rd i 0).2.2 }
  else if zeroB (s.A.rd i 0).2.1 then { s with fresh := true, A := (s.A.rd i 0).2.2 }
  else if headAt (s.A.rd i 0).2.1 i && (!s.found || decide (s.latest.seq < (Frm.read (s.A.rd i 0).2.1).seq)) then ⟨readH (Frm.read (s.A.rd i 0).2.1), true, s.fresh, s.other ||| 2 ^ i, (s.A.rd i 0).2.2⟩
  else { s with other := s.other ||| 2 ^ i, A := (s.A.rd i 0).2.2 }
def hdTo (A : Arr) : Nat → HdSt
  | 0 => ⟨hd0, false, false, 0, A⟩
  | k + 1 => hdStep (hdTo A k) k
theorem hdStep_n (s : HdSt) (i : Nat) : (hdStep s i).A.n = s.A.n ∧ (hdStep s i).A.wait = s.A.wait := by
  have e1 := rd_n s.A i 0
  have e2 : ((s.A.rd i 0).2.2).wait = s.A.wait := by
    unfold Arr.rd; split
    · rfl
    · split <;> rfl
  unfold hdStep
  split
  · exact ⟨e1, e2⟩
  · split
    · exact ⟨e1, e2⟩
    · split <;> exact ⟨e1, e2⟩
theorem hdTo_n (A : Arr) : ∀ k, (hdTo A k).A.n = A.n ∧ (hdTo A k).A.wait = A.wait
  | 0 => ⟨rfl, rfl⟩
  | k + 1 => ⟨(hdStep_n _ _).1.trans (hdTo_n A k).1, (hdStep_n _ _).2.trans (hdTo_n A k).2⟩
theorem or_lt {s k : Nat} (hs : s < 2 ^ 16) (hk : k < 16) : s ||| 2 ^ k < 2 ^ 16 := Nat.or_lt_two_pow hs (Nat.pow_lt_pow_right (by omega) hk)
theorem hdTo_other (A : Arr) : ∀ k, k ≤ 16 → (hdTo A k).other < 2 ^ 16
  | 0, _ => by show (0 : Nat) < _; decide
  | k + 1, hk => by
    have ih := hdTo_other A k (by omega)
    have h2 := or_lt ih (show k < 16 by omega)
    show (hdStep (hdTo A k) k).other < _
    unfold hdStep
    split
    · exact h2
    · split
      · exact ih
      · split <;> exact h2
theorem seqOf_lt (x : Nat → UInt8) : ∀ n, Frm.seqOf x n < 2 ^ 64
  | 0 => by simp [Frm.seqOf]
  | n + 1 => Nat.mod_lt _ (by decide)
theorem readH_ok (f : Frm.Frm) (h : f.seq < 2 ^ 64) : (readH f).ok :=
  ⟨(f.data 8).toNat_lt, (f.data 9).toNat_lt, (f.data 10).toNat_lt, ofB_lt _ 4, ofB_lt _ 4, ofB_lt _ 8, h⟩
theorem hdTo_ok (A : Arr) : ∀ k, (hdTo A k).latest.ok
  | 0 => by show hd0.ok; exact ⟨by decide, by decide, by decide, by decide, by decide, by decide, by decide⟩
  | k + 1 => by
    have ih := hdTo_ok A k
    show (hdStep (hdTo A k) k).latest.ok
    unfold hdStep
    split
    · exact ih
    · split
      · exact ih
      · split
        · exact readH_ok _ (seqOf_lt _ 8)
        · exact ih

theorem or64_spell' (x b : Nat) (hx : x < 2 ^ 64) (hb : b < 64) : bits .or .u64 (x : Int) (IntKind.u64.wrap ((2 : Int) ^ b)) = ((x ||| 2 ^ b : Nat) : Int) := by
  have hp : 2 ^ b < 2 ^ 64 := Nat.pow_lt_pow_right (by omega) hb
  have e0 : (2 : Int) ^ b = ((2 ^ b : Nat) : Int) := by simp
  have e1 : IntKind.u64.wrap ((2 : Int) ^ b) = ((2 ^ b : Nat) : Int) := by rw [e0]; exact wraps_u64 _ (Int.natCast_nonneg _) (by omega)
  rw [e1]
  exact (bits_nat .u64 64 (by decide) (fun n h₀ h₁ => Int.emod_eq_of_lt h₀ h₁) x (2 ^ b) hx hp).2
def HeadsIs (w : World) (l : ArrL) (A : Arr) (D L G : Nat) (e : Ending) (w' : World) : Prop :=
  e = .returned (.tuple #[hv (hdTo A (D + L + G)).latest, .bool (hdTo A (D + L + G)).found, .bool ((hdTo A (D + L + G)).fresh && decB D L G (hdTo A (D + L + G)).other)]) ∧ ArrAt w' l (hdTo A (D + L + G)).A ∧ Upd (· = l.db) w w'

theorem class_worlds (G : World → Prop) (W : World) (h : G W) : ∃ (ι : Type) (_ : Nonempty ι) (f : ι → World), (∀ n, G (f n)) ∧ Hid (∀ V, G V → ∃ n, V = f n) :=
  ⟨{V : World // G V}, ⟨⟨W, h⟩⟩, fun n => n.1, fun n => n.2, Lib.hid fun V hV => ⟨⟨V, hV⟩, rfl⟩⟩
theorem results_cell_slot2 {P : Program} {fn : Func} {p s t : Tmp} {ty : TypeId} (h : fn.results = #[.cell p ty, .tmp s, .tmp t]) {tmps : Array Value} {w : World} {b n : Nat} {f : Nat → Value} {d : TypeDesc} (hp : tmps.getD p undef = .pointer (some ⟨b, 0, none⟩)) (hr : Rd w b 0 n f)
    (hu : P.underlying ty = some d) (hd : (match d with | .struct _ | .array _ _ => true | _ => false) = true) (hi : (P.info? ty).map (·.size) = some n) : (results fn tmps).run P w = .ok (.tuple #[av n f, tmps.getD s undef, tmps.getD t undef]) w := by
  have hp' : tmps[p]?.getD undef = .pointer (some ⟨b, 0, none⟩) := by simpa using hp
  simp [results, h, hp', asAddr, run_load_rd hr hu hd hi, Sem.run_bind]

set_option maxHeartbeats 8000000 in
theorem heads_any (w : World) (ar cb kb : Nat) (l : ArrL) (A : Arr) (D L G : Nat) (cv : Value) (β : Nat → Nat) (h : Hd) (ov lv bv : Value) (H : ArcAt w ar cb kb l A D L G cv β h ov lv bv) :
    Calls Tryz.prog 47 #[.pointer (some ⟨ar, 0, none⟩)] w (HeadsIs w l A D L G) := by
  have h7 := H.right.sum; have h1 := H.right.d1; have hL1 := H.right.l1
  have hb0 : Below w.heap.size w (w.alloc (.cells (bc 7 (hc hd0)) 95)) := (Below.refl _ w).alloc (Nat.le_refl _) _
  have HV := Lib.hid (Row.box w 7 (hc hd0) 95)
  have HKv := Lib.hid (Kd.new w (bc 7 (hc hd0)) 95)
  have HH := Lib.hid (H.later hb0)
  have HB0 := Lib.hid hb0
  have HN := Lib.hid H.n
  have hz0 : (w.alloc (.cells (bc 7 (hc hd0)) 95)).heap.size = w.heap.size + 1 := World.size_alloc ..
  have hdb : l.db ≠ w.heap.size := by have := H.arr.own_lt _ (.inr (.inl ⟨rfl, by rw [H.n]; omega⟩)); omega
  obtain ⟨N, hN⟩ : ∃ N, N = D + L + G := ⟨_, rfl⟩
  have eN : (D : Int) + L + G = (N : Int) := by omega
  have HNe := Lib.hid hN
  have hN16 : N ≤ 16 := by omega
  have HAr := Lib.hid (show ¬ (ar = l.db ∨ ar = w.heap.size) from fun hx => by
    rcases hx with e | e
    · exact H.notOwn (.inr (.inl ⟨e, by rw [H.n]; omega⟩))
    · have := H.kd.lt; omega)
  have HOwR := Lib.hid (show ∀ b, l.own A.n b → b ≠ w.heap.size from fun b hb => by have := H.arr.own_lt b hb; omega)
  clear H hb0
  go_enter Tryz.func47, Tryz.ntmps47
  go_upto_region 1 with fail
  change Code.wp _ _ _ _ (w.alloc (.cells (bc 7 (hc hd0)) 95))
  generalize w.alloc (.cells (bc 7 (hc hd0)) 95) = w0 at *
  have c1 := HH.out.c1
  have p0 := HH.out.p0; have p1 := HH.out.p1; have p2 := HH.out.p2
  go_wp2_with fail
  refine (shards_any D L G (by omega) _).mono ?_
  rintro e w1 ⟨rfl, hb⟩
  rw [eN]
  dsimp only
  clear eN hN
  go_wp2_with fail
  have HB1 := Lib.hid (HB0.out.trans (hb.mono (by omega)))
  have HV1 := Lib.hid (HV.out.later hb)
  have HA1 := Lib.hid (HH.out.arr.later hb)
  have HHb := Lib.hid hb
  clear hb c1 p0 p1 p2 HB0 HV
  go_loopg [3, 4, 5, 22] N (fun g f3 f4 o5 i wr => ∃ k : Nat, g = N - k ∧ k ≤ N ∧ f3 = .bool (hdTo A k).found ∧ f4 = .bool (hdTo A k).fresh ∧ o5 = U (hdTo A k).other ∧ i = I k ∧ ArrAt wr l (hdTo A k).A ∧ Row wr w.heap.size 0 7 (hc (hdTo A k).latest) ∧ Upd (· = l.db) w wr ∧ Upd (fun b => b = l.db ∨ b = w.heap.size) w0 wr)
  case atStart => exact ⟨0, rfl, by omega, rfl, rfl, rfl, rfl, HA1.out, HV1.out, (Upd.of_below HB1.out).mono fun _ _ h => h.elim, (Upd.of_below HHb.out).mono fun _ _ h => h.elim⟩
  case round =>
    obtain ⟨k, rfl, hk, rfl, rfl, rfl, rfl, hA, hv, hu, hu0⟩ := hrel
    obtain ⟨n1, n2⟩ := hdTo_n A k
    have ho := hdTo_other A k (by omega)
    have HSt0 := Lib.hid (show hdTo A (k + 1) = hdStep (hdTo A k) k from rfl)
    have HA := Lib.hid hA
    have HVr := Lib.hid hv
    have HU := Lib.hid hu
    have HU0 := Lib.hid hu0
    have hzr := hu.size
    have hzr0 := hu0.size
    have HNk := Lib.hid (show 0 < (hdTo A k).A.n by rw [n1, HN.out]; omega)
    have HW := Lib.hid (show (hdTo A k).A.wait < 0 by rw [n2]; exact HH.out.wait)
    clear hA hv hu hu0
    by_cases hlt : k < N
    · generalize hdTo A k = s at *
      obtain ⟨err, herr⟩ : ∃ y, y = (s.A.rd k 0).1 := ⟨_, rfl⟩
      obtain ⟨x, hx⟩ : ∃ y, y = (s.A.rd k 0).2.1 := ⟨_, rfl⟩
      obtain ⟨A', hA'⟩ : ∃ y, y = (s.A.rd k 0).2.2 := ⟨_, rfl⟩
      have HnA := Lib.hid (show A'.n = A.n from by rw [hA', rd_n]; exact n1)
      have HP := Lib.hid (show err ≠ some 13 from by rw [herr]; exact rd_power HW.out)
      have HRd := Lib.hid (show Calls Tryz.prog 65 #[.pointer (some ⟨l.ab, 0, none⟩), I k, I (0 : Nat)] wr fun e w' => ∃ v, e = .returned (.tuple #[av 64 (rb x), v]) ∧ EV w' v err ∧ ArrAt w' l A' ∧ Upd (· = l.db) wr w' from by rw [herr, hx, hA']; exact read_any wr l s.A k 0 HA.out)
      have HSt1 := Lib.hid (show hdTo A (k + 1) = if err.isSome then { s with other := s.other ||| 2 ^ k, A := A' } else if zeroB x then { s with fresh := true, A := A' } else if headAt x k && (!s.found || decide (s.latest.seq < (Frm.read x).seq)) then ⟨readH (Frm.read x), true, s.fresh, s.other ||| 2 ^ k, A'⟩ else { s with other := s.other ||| 2 ^ k, A := A' } from by rw [HSt0.out, herr, hx, hA']; rfl)
      clear HSt0 herr hx hA'
      have c0 : wr.cell? ⟨ar, 0, none⟩ = some (.pointer (some ⟨l.ab, 0, none⟩)) := (HH.out.top.upd HU0.out (fun _ => HAr.out)).cell 0 (by omega)
      go_upto_region 6 with (first | (go_at_call 65; refine HRd.out.mono ?_; rintro e w2 ⟨v, rfl, hev, hA2, hu2⟩) | (refine wpList_store_all (g := rb x) rfl 170 (.tmp 7) (.tmp 33) rfl rfl rfl (Row.box w2 64 zc 170) a170 (fun _ _ => rfl) ?_; intro w3 hu3 hs3 hk3 hr3; simp only [Act.put]))
      have hb3 : Below w2.heap.size w2 w3 := Below.upd ((Below.refl _ w2).alloc (Nat.le_refl _) _) hu3 (fun _ h => h ▸ Nat.le_refl _) (by simp)
      have HEV := Lib.hid (hev.later hb3)
      have HA3 := Lib.hid (hA2.later hb3)
      have HV3 := Lib.hid ((HVr.out.upd hu2 (fun _ => Ne.symm hdb)).later hb3)
      have HX3 := Lib.hid hr3
      have HU3 := Lib.hid ((HU.out.trans hu2 (fun _ h _ => h)).trans (Upd.of_below hb3) (fun _ h _ => h.elim) : Upd (· = l.db) w w3)
      have HU03 := Lib.hid ((HU0.out.trans hu2 (fun _ h _ => .inl h)).trans (Upd.of_below hb3) (fun _ h _ => h.elim) : Upd (fun b => b = l.db ∨ b = w.heap.size) w0 w3)
      have hz3 : w.heap.size < w2.heap.size := by have := hu2.size; omega
      have hz33 := hb3.size
      clear hev hA2 hu2 hb3 hu3 hs3 hk3 hr3 c0 HRd HU HU0 HA HVr
      cases err with
      | some kk =>
        have HPn := Lib.hid (powered_any v (some kk) w3 HEV.out HP.out)
        obtain ⟨p, d', b', rfl, _⟩ := id HEV.out
        have n1' := neq_nilB (.pointer (some ⟨p, 0, none⟩))
        have HSt := Lib.hid (show hdTo A (k + 1) = { s with other := s.other ||| 2 ^ k, A := A' } from HSt1.out)
        go_upto_region 7 with (go_at_call 55; refine HPn.out.mono ?_; rintro e w3 ⟨rfl, rfl⟩)
        go_upto_region 16 with fail
        rw [or64_spell' s.other k (by omega) (by omega)]
        go_wp2_with fail
        go_roundg (N - (k + 1))
        case measure => omega
        case rel => exact ⟨k + 1, rfl, by omega, by rw [HSt.out], by rw [HSt.out], by rw [HSt.out], by go_num, by rw [HSt.out]; exact HA3.out, by rw [HSt.out]; exact HV3.out, HU3.out, HU03.out⟩
      | none =>
        have HPn := Lib.hid (powered_any v none w3 HEV.out (by simp))
        obtain rfl : v = .nilIface := HEV.out
        have n1' := neq_nilN
        have hi5' : (Tryz.prog.info? 5).isSome = true := by kernel_rfl
        obtain ⟨i5, hi5⟩ := Option.isSome_iff_exists.1 hi5'
        have hc5 : Tryz.prog.cellsOf 5 = 1 := by kernel_rfl
        have hm5 : Tryz.prog.eqGuardType Tryz.prog.depth 170 = false := by kernel_rfl
        have HEQ := Lib.hid (And.intro hi5 (And.intro hc5 hm5))
        clear hi5 hc5 hm5 hi5'
        obtain ⟨z, hzz⟩ : ∃ z, z = zeroB x := ⟨_, rfl⟩
        have HZ := Lib.hid hzz
        have HSt2 := Lib.hid (show hdTo A (k + 1) = if z then { s with fresh := true, A := A' } else if headAt x k && (!s.found || decide (s.latest.seq < (Frm.read x).seq)) then ⟨readH (Frm.read x), true, s.fresh, s.other ||| 2 ^ k, A'⟩ else { s with other := s.other ||| 2 ^ k, A := A' } from by rw [hzz]; exact HSt1.out)
        clear hzz HSt1
        go_upto_region 8 with (go_at_call 55; refine HPn.out.mono ?_; rintro e w3 ⟨rfl, rfl⟩)
        cases z with
        | true =>
          have HSt := Lib.hid (show hdTo A (k + 1) = { s with fresh := true, A := A' } from HSt2.out)
          go_upto_region 16 with (first | (refine wpList_load_rd rfl 170 (.tmp 7) rfl rfl HX3.out.rd Tryz.underlying170 rfl a170 ?_; simp only [Act.put, List.setIfInBounds_toArray, List.set_cons_succ, List.set_cons_zero]) | (refine wpList_build rfl 170 [] rfl [] rfl _ zBlk ?_; simp only [Act.put, List.setIfInBounds_toArray, List.set_cons_succ, List.set_cons_zero]) | (refine wpList_eq_bytes rfl 170 170 (.tmp 42) (.tmp 43) rfl x (fun _ => 0) rfl rfl Tryz.underlying170 HEQ.out.1 HEQ.out.2.1 aggU8 Tryz.underlying5 HEQ.out.2.2 ?_; rw [show ((List.range 64).all fun j => x j == (fun _ => 0) j) = true from HZ.out.symm]; simp only [Act.put, List.setIfInBounds_toArray, List.set_cons_succ, List.set_cons_zero]))
          go_wp2_with fail
          go_roundg (N - (k + 1))
          case measure => omega
          case rel => exact ⟨k + 1, rfl, by omega, by rw [HSt.out], by rw [HSt.out], by rw [HSt.out], by go_num, by rw [HSt.out]; exact HA3.out, by rw [HSt.out]; exact HV3.out, HU3.out, HU03.out⟩
        | false =>
          have HSt3 := Lib.hid (show hdTo A (k + 1) = if headAt x k && (!s.found || decide (s.latest.seq < (Frm.read x).seq)) then ⟨readH (Frm.read x), true, s.fresh, s.other ||| 2 ^ k, A'⟩ else { s with other := s.other ||| 2 ^ k, A := A' } from HSt2.out)
          clear HSt2
          go_upto_region 11 with (first | (refine wpList_load_rd rfl 170 (.tmp 7) rfl rfl HX3.out.rd Tryz.underlying170 rfl a170 ?_; simp only [Act.put, List.setIfInBounds_toArray, List.set_cons_succ, List.set_cons_zero]) | (refine wpList_build rfl 170 [] rfl [] rfl _ zBlk ?_; simp only [Act.put, List.setIfInBounds_toArray, List.set_cons_succ, List.set_cons_zero]) | (refine wpList_eq_bytes rfl 170 170 (.tmp 42) (.tmp 43) rfl x (fun _ => 0) rfl rfl Tryz.underlying170 HEQ.out.1 HEQ.out.2.1 aggU8 Tryz.underlying5 HEQ.out.2.2 ?_; rw [show ((List.range 64).all fun j => x j == (fun _ => 0) j) = false from HZ.out.symm]; simp only [Act.put, List.setIfInBounds_toArray, List.set_cons_succ, List.set_cons_zero]))
          rw [or64_spell' s.other k (by omega) (by omega)]
          go_upto_region 12 with (first | (refine wpList_load_rd rfl 170 (.tmp 7) rfl rfl HX3.out.rd Tryz.underlying170 rfl a170 ?_; simp only [Act.put, List.setIfInBounds_toArray, List.set_cons_succ, List.set_cons_zero]) | (go_at_call 66; refine (open_any x _).mono ?_; rintro e w4 ⟨rfl, hb4⟩) | (refine wpList_store_all (g := fc (Frm.read x)) rfl 130 (.tmp 9) (.tmp 52) rfl rfl rfl (Row.box w4 47 (fc frm0) 130) a130 (fun i _ => fc_one _ i) ?_; intro w5 hu5 hs5 hk5 hr5; simp only [Act.put]))
          have hb45 : Below w4.heap.size w4 w5 := Below.upd ((Below.refl _ w4).alloc (Nat.le_refl _) _) hu5 (fun _ h => h ▸ Nat.le_refl _) (by simp)
          have hb5 : Below w3.heap.size w3 w5 := hb4.trans (hb45.mono hb4.size)
          have HA5 := Lib.hid (HA3.out.later hb5)
          have HV5 := Lib.hid (HV3.out.later hb5)
          have HU5 := Lib.hid (HU3.out.trans (Upd.of_below hb5) (fun _ h _ => h.elim) : Upd (· = l.db) w w5)
          have HU05 := Lib.hid (HU03.out.trans (Upd.of_below hb5) (fun _ h _ => h.elim) : Upd (fun b => b = l.db ∨ b = w.heap.size) w0 w5)
          have HF5 := Lib.hid hr5
          have hz5 := hb5.size
          have hz4 := hb4.size
          clear hb4 hb45 hb5 hu5 hs5 hk5 hr5 HA3 HV3 HU3 HU03 HX3
          cases hq1 : Frm.okB x with
          | false =>
            have HSt := Lib.hid (show hdTo A (k + 1) = { s with other := s.other ||| 2 ^ k, A := A' } from by rw [HSt3.out]; unfold headAt; rw [hq1]; rfl)
            clear hq1
            go_upto_region 16 with fail
            go_wp2_with fail
            go_roundg (N - (k + 1))
            case measure => omega
            case rel => exact ⟨k + 1, rfl, by omega, by rw [HSt.out], by rw [HSt.out], by rw [HSt.out], by go_num, by rw [HSt.out]; exact HA5.out, by rw [HSt.out]; exact HV5.out, HU5.out, HU05.out⟩
          | true =>
            cases hq2 : isHead (Frm.read x) with
            | false =>
              have HSt := Lib.hid (show hdTo A (k + 1) = { s with other := s.other ||| 2 ^ k, A := A' } from by rw [HSt3.out]; unfold headAt; rw [hq1, hq2]; rfl)
              have HRH := Lib.hid (show ∀ w, Calls Tryz.prog 67 #[fv (Frm.read x)] w fun e w' => e = .returned (.tuple #[av 7 (hc hd0), .bool false]) ∧ Below w.heap.size w w' from fun w => by have h := readHead_any (Frm.read x) w; unfold RHIs at h; rw [hq2] at h; exact h)
              clear hq1 hq2
              go_upto_region 14 with (first | (refine wpList_load_rd rfl 130 (.tmp 9) rfl rfl HF5.out.rd Tryz.underlying130 rfl a130 ?_; simp only [Act.put, List.setIfInBounds_toArray, List.set_cons_succ, List.set_cons_zero]) | (go_at_call 67; refine (HRH.out _).mono ?_; rintro e w6 ⟨rfl, hb6⟩) | (refine wpList_store_all (g := hc hd0) rfl 95 (.tmp 11) (.tmp 59) rfl rfl rfl (Row.box w6 7 (hc hd0) 95) a95 (fun i hi => hc_one _ i hi) ?_; intro w7 hu7 hs7 hk7 hr7; simp only [Act.put]))
              have hb67 : Below w6.heap.size w6 w7 := Below.upd ((Below.refl _ w6).alloc (Nat.le_refl _) _) hu7 (fun _ h => h ▸ Nat.le_refl _) (by simp)
              have hb7 : Below w5.heap.size w5 w7 := hb6.trans (hb67.mono hb6.size)
              have HA7 := Lib.hid (HA5.out.later hb7)
              have HV7 := Lib.hid (HV5.out.later hb7)
              have HU7 := Lib.hid (HU5.out.trans (Upd.of_below hb7) (fun _ h _ => h.elim) : Upd (· = l.db) w w7)
              have HU07 := Lib.hid (HU05.out.trans (Upd.of_below hb7) (fun _ h _ => h.elim) : Upd (fun b => b = l.db ∨ b = w.heap.size) w0 w7)
              clear hb6 hb67 hb7 hu7 hs7 hk7 hr7 HA5 HV5 HU5 HU05 HF5
              go_upto_region 16 with fail
              go_wp2_with fail
              go_roundg (N - (k + 1))
              case measure => omega
              case rel => exact ⟨k + 1, rfl, by omega, by rw [HSt.out], by rw [HSt.out], by rw [HSt.out], by go_num, by rw [HSt.out]; exact HA7.out, by rw [HSt.out]; exact HV7.out, HU7.out, HU07.out⟩
            | true =>
              have HRH := Lib.hid (show ∀ w, Calls Tryz.prog 67 #[fv (Frm.read x)] w fun e w' => e = .returned (.tuple #[av 7 (hc (readH (Frm.read x))), .bool true]) ∧ Below w.heap.size w w' from fun w => by have h := readHead_any (Frm.read x) w; unfold RHIs at h; rw [hq2] at h; exact h)
              obtain ⟨e2, he2⟩ : ∃ b, decide ((Frm.read x).shard = k) = b := ⟨_, rfl⟩
              obtain ⟨e3, he3⟩ : ∃ b, decide (s.latest.seq < (Frm.read x).seq) = b := ⟨_, rfl⟩
              obtain ⟨fd, hfd⟩ : ∃ b, s.found = b := ⟨_, rfl⟩
              have HSt4 := Lib.hid (show hdTo A (k + 1) = if e2 && (!fd || e3) then ⟨readH (Frm.read x), true, s.fresh, s.other ||| 2 ^ k, A'⟩ else { s with other := s.other ||| 2 ^ k, A := A' } from by rw [HSt3.out]; unfold headAt; rw [hq1, hq2, he2, he3, hfd]; rfl)
              have e2I : (((Frm.read x).shard : Int) == (k : Int)) = e2 := by
                rw [← he2, Bool.eq_iff_iff]; simp
                constructor <;> (intro h; omega)
              have e3I : decide ((s.latest.seq : Int) < ((Frm.read x).seq : Int)) = e3 := by
                rw [← he3]; congr 1; apply propext; omega
              have HFd := Lib.hid hfd
              clear HSt3 hq1 hq2 he2
              go_upto_region 14 with (first | (refine wpList_load_rd rfl 130 (.tmp 9) rfl rfl HF5.out.rd Tryz.underlying130 rfl a130 ?_; simp only [Act.put, List.setIfInBounds_toArray, List.set_cons_succ, List.set_cons_zero]) | (go_at_call 67; refine (HRH.out _).mono ?_; rintro e w6 ⟨rfl, hb6⟩) | (refine wpList_store_all (g := hc (readH (Frm.read x))) rfl 95 (.tmp 11) (.tmp 59) rfl rfl rfl (Row.box w6 7 (hc hd0) 95) a95 (fun i hi => hc_one _ i hi) ?_; intro w7 hu7 hs7 hk7 hr7; simp only [Act.put]))
              have hb67 : Below w6.heap.size w6 w7 := Below.upd ((Below.refl _ w6).alloc (Nat.le_refl _) _) hu7 (fun _ h => h ▸ Nat.le_refl _) (by simp)
              have hb7 : Below w5.heap.size w5 w7 := hb6.trans (hb67.mono hb6.size)
              have HA7 := Lib.hid (HA5.out.later hb7)
              have HV7 := Lib.hid (HV5.out.later hb7)
              have HF7 := Lib.hid (HF5.out.later hb7)
              have HU7 := Lib.hid (HU5.out.trans (Upd.of_below hb7) (fun _ h _ => h.elim) : Upd (· = l.db) w w7)
              have HU07 := Lib.hid (HU05.out.trans (Upd.of_below hb7) (fun _ h _ => h.elim) : Upd (fun b => b = l.db ∨ b = w.heap.size) w0 w7)
              have HH7 := Lib.hid hr7
              clear hb6 hb67 hb7 hu7 hs7 hk7 hr7 HA5 HV5 HU5 HU05 HF5
              clear hfd
              have f1 : w7.cell? ⟨w4.heap.size, 1, none⟩ = some (I (Frm.read x).shard) := HF7.out.cell 1 (by omega)
              have q0 : w7.cell? ⟨w6.heap.size, 0, none⟩ = some (U64 (Frm.read x).seq) := HH7.out.cell 0 (by omega)
              have v0 : w7.cell? ⟨w.heap.size, 0, none⟩ = some (U64 s.latest.seq) := HV7.out.cell 0 (by omega)
              cases e2 with
              | false =>
                have HSt := Lib.hid (show hdTo A (k + 1) = { s with other := s.other ||| 2 ^ k, A := A' } from HSt4.out)
                go_upto_region 16 with fail
                go_wp2_with fail
                go_roundg (N - (k + 1))
                case measure => omega
                case rel => exact ⟨k + 1, rfl, by omega, by rw [HSt.out]; exact congrArg Value.bool HFd.out.symm, by rw [HSt.out], by rw [HSt.out], by go_num, by rw [HSt.out]; exact HA7.out, by rw [HSt.out]; exact HV7.out, HU7.out, HU07.out⟩
              | true =>
                cases fd with
                | false =>
                  have HSt := Lib.hid (show hdTo A (k + 1) = ⟨readH (Frm.read x), true, s.fresh, s.other ||| 2 ^ k, A'⟩ from HSt4.out)
                  go_upto_region 15 with fail
                  go_upto_region 16 with (first | (refine wpList_load_rd rfl 95 (.tmp 11) rfl rfl HH7.out.rd Tryz.underlying95 rfl a95 ?_; simp only [Act.put, List.setIfInBounds_toArray, List.set_cons_succ, List.set_cons_zero]) | (refine wpList_store_all (g := hc (readH (Frm.read x))) rfl 95 (.tmp 2) (.tmp 79) rfl rfl rfl HV7.out a95 (fun i hi => hc_one _ i hi) ?_; intro w8 hu8 hs8 hk8 hr8; simp only [Act.put]))
                  have HA8 := Lib.hid (HA7.out.kept hu8 (fun b hb _ e => HOwR.out b (by rwa [HnA.out] at hb) e))
                  have HU8 := Lib.hid (HU7.out.trans hu8 (fun _ h h2 => by omega) : Upd (· = l.db) w w8)
                  have HU08 := Lib.hid (HU07.out.trans hu8 (fun _ h _ => .inr h) : Upd (fun b => b = l.db ∨ b = w.heap.size) w0 w8)
                  have HV8 := Lib.hid hr8
                  clear hu8 hs8 hk8 hr8
                  go_wp2_with fail
                  go_roundg (N - (k + 1))
                  case measure => omega
                  case rel => exact ⟨k + 1, rfl, by omega, by rw [HSt.out], by rw [HSt.out], by rw [HSt.out], by go_num, by rw [HSt.out]; exact HA8.out, by rw [HSt.out]; exact HV8.out, HU8.out, HU08.out⟩
                | true =>
                  cases e3 with
                  | false =>
                    have HSt := Lib.hid (show hdTo A (k + 1) = { s with other := s.other ||| 2 ^ k, A := A' } from HSt4.out)
                    go_upto_region 16 with fail
                    go_wp2_with fail
                    go_roundg (N - (k + 1))
                    case measure => omega
                    case rel => exact ⟨k + 1, rfl, by omega, by rw [HSt.out]; exact congrArg Value.bool HFd.out.symm, by rw [HSt.out], by rw [HSt.out], by go_num, by rw [HSt.out]; exact HA7.out, by rw [HSt.out]; exact HV7.out, HU7.out, HU07.out⟩
                  | true =>
                    have HSt := Lib.hid (show hdTo A (k + 1) = ⟨readH (Frm.read x), true, s.fresh, s.other ||| 2 ^ k, A'⟩ from HSt4.out)
                    go_upto_region 15 with fail
                    go_upto_region 16 with (first | (refine wpList_load_rd rfl 95 (.tmp 11) rfl rfl HH7.out.rd Tryz.underlying95 rfl a95 ?_; simp only [Act.put, List.setIfInBounds_toArray, List.set_cons_succ, List.set_cons_zero]) | (refine wpList_store_all (g := hc (readH (Frm.read x))) rfl 95 (.tmp 2) (.tmp 79) rfl rfl rfl HV7.out a95 (fun i hi => hc_one _ i hi) ?_; intro w8 hu8 hs8 hk8 hr8; simp only [Act.put]))
                    have HA8 := Lib.hid (HA7.out.kept hu8 (fun b hb _ e => HOwR.out b (by rwa [HnA.out] at hb) e))
                    have HU8 := Lib.hid (HU7.out.trans hu8 (fun _ h h2 => by omega) : Upd (· = l.db) w w8)
                    have HU08 := Lib.hid (HU07.out.trans hu8 (fun _ h _ => .inr h) : Upd (fun b => b = l.db ∨ b = w.heap.size) w0 w8)
                    have HV8 := Lib.hid hr8
                    clear hu8 hs8 hk8 hr8
                    go_wp2_with fail
                    go_roundg (N - (k + 1))
                    case measure => omega
                    case rel => exact ⟨k + 1, rfl, by omega, by rw [HSt.out], by rw [HSt.out], by rw [HSt.out], by go_num, by rw [HSt.out]; exact HA8.out, by rw [HSt.out]; exact HV8.out, HU8.out, HU08.out⟩
    · obtain rfl : k = N := by omega
      have HSv := Lib.hid (show hdTo A (D + L + G) = hdTo A k from by rw [HNe.out])
      generalize hdTo A k = s at *
      have HRt := Lib.hid HH.out.right
      obtain ⟨ι1, hι1, wA, hwA, HWA⟩ := class_worlds (fun V => Upd (· = w.heap.size) wr V ∧ Row V w.heap.size 0 7 (hc s.latest)) wr ⟨Upd.refl _ _, HVr.out⟩
      have HUA := Lib.hid (fun n => (HU0.out.trans (hwA n).1 (fun _ h _ => .inr h) : Upd (fun b => b = l.db ∨ b = w.heap.size) w0 (wA n)))
      have HUw := Lib.hid (fun n => (HU.out.trans (hwA n).1 (fun _ h h2 => by omega) : Upd (· = l.db) w (wA n)))
      have HRA := Lib.hid (fun n => (hwA n).2)
      have HAA := Lib.hid (fun n => HA.out.kept (hwA n).1 (fun b hb _ e => HOwR.out b (by rwa [n1] at hb) e))
      have HCA := Lib.hid (fun n => HH.out.cd.kinds (HUA.out n) (fun b hb t ht => by
        rcases hb with rfl | rfl
        · rcases HH.out.arr.kind (.inr (.inl ⟨rfl, by rw [HN.out]; omega⟩)) ht with e | e | e | e <;> subst e <;> decide
        · have e : t = 95 := by
            rcases Nat.decEq t 95 with hne | he
            · exact absurd rfl (ht.ne HKv.out hne)
            · exact he
          subst e; decide) (by omega))
      have a1 : ∀ n, (wA n).cell? ⟨ar, 1, none⟩ = some (.pointer (some ⟨cb, 0, none⟩)) := fun n => (HH.out.top.upd (HUA.out n) (fun _ => HAr.out)).cell 1 (by omega)
      have HDc := Lib.hid (fun n => decodable_any (wbot (wA n)) cb D L G s.other cv β (wA n) (HCA.out n) HRt.out (by omega))
      have HNx := Lib.hid (fun n V (hb : Below (wA n).heap.size (wA n) V) => HWA.out V ⟨(hwA n).1.trans (Upd.of_below hb) (fun _ h _ => h.elim), (hwA n).2.later hb⟩)
      have HSt := Lib.hid (fun n V (hu : Upd (· = w.heap.size) (wA n) V) (hr : Row V w.heap.size 0 7 (hc s.latest)) => HWA.out V ⟨(hwA n).1.trans hu (fun _ h _ => h), hr⟩)
      have HEnd := Lib.hid (fun n b (hb : b = (s.fresh && decB D L G s.other)) => show HeadsIs w l A D L G (.returned (.tuple #[hv s.latest, .bool s.found, .bool b])) (wA n) from by
        subst hb
        unfold HeadsIs
        rw [HSv.out]
        exact ⟨rfl, HAA.out n, HUw.out n⟩)
      clear hwA n1 n2
      obtain ⟨fr, hfr⟩ : ∃ b, s.fresh = b := ⟨_, rfl⟩
      go_upto_region 17 with fail
      cases fr with
      | false =>
        rw [hfr] at HEnd
        rw [hfr]
        refine wp_region_I (fun _ V => ∃ n, V = wA n) mixed0 (by kernel_rfl) (HWA.out _ ⟨(Upd.of_below (below_drew' wr)).mono fun _ _ h => h.elim, HVr.out.later (below_drew' wr)⟩) ?_
        refine wpI_reads (C := fun V => ∃ n, V = wA n) 10 (by decide) rfl (fun L V h => h) (fun j _ _ L V h => h) ?_
        simp only [List.drop_zero, List.take_succ_cons, List.take_zero]
        refine wpQuiet_load_rd rfl 95 (.tmp 2) rfl rfl (fun V hV => by obtain ⟨n, rfl⟩ := hV; exact (HRA.out n).rd) Tryz.underlying95 rfl a95 ?_
        simp only [Act.put, List.setIfInBounds_toArray, List.set_cons_succ, List.set_cons_zero]
        repeat (go_big_quiet_step (fail))
        refine wpQuiet_nil ?_
        simp only [Nat.zero_add]
        refine wpI_skip rfl rfl (fun L V h => h) ?_
        simp only [Act.put, List.setIfInBounds_toArray, List.set_cons_succ, List.set_cons_zero]
        refine wpI_reads (C := fun V => ∃ n, V = wA n) 1 (by decide) rfl (fun L V h => h) (fun j _ _ L V h => h) ?_
        simp only [List.drop_succ_cons, List.drop_zero, List.take_succ_cons, List.take_zero]
        repeat (go_big_quiet_step (fail))
        refine wpQuiet_nil ?_
        refine wpI_eff rfl rfl undef ?_ ?_
        · intro L' V hL _ hS
          obtain ⟨n, rfl⟩ := hS
          refine wpList_store_all (g := hc s.latest) rfl 95 (.tmp 2) (.tmp 81) rfl rfl rfl (HRA.out n) a95 (fun i hi => hc_one _ i hi) ?_
          intro w8 hu8 hs8 hk8 hr8
          simp only [Act.put]
          have H8 := Lib.hid (HSt.out n _ hu8 hr8)
          clear hu8 hs8 hk8 hr8
          go_wp2_with fail
          exact H8.out
        simp only [Act.put, List.setIfInBounds_toArray, List.set_cons_succ, List.set_cons_zero]
        refine wpI_reads (C := fun V => ∃ n, V = wA n) 2 (by decide) rfl (fun L V h => h) (fun j _ _ L V h => h) ?_
        simp only [List.drop_succ_cons, List.drop_zero, List.take_succ_cons, List.take_zero]
        repeat (go_big_quiet_step (fail))
        refine wpQuiet_nil ?_
        refine wpI_end (by decide) ?_
        intro L' V _ hS
        obtain ⟨n, rfl⟩ := hS
        go_wp2_with fail
        refine bodyPost_ret (v := .tuple #[hv s.latest, .bool s.found, .bool false]) (results_cell_slot2 Tryz.results47 (b := w.heap.size) rfl (HRA.out n).rd Tryz.underlying95 rfl a95) rfl ?_
        exact HEnd.out n _ rfl
      | true =>
        rw [hfr] at HEnd
        rw [hfr]
        refine wp_region_I (fun _ V => ∃ n, V = wA n) mixed0 (by kernel_rfl) (HWA.out _ ⟨(Upd.of_below (below_drew' wr)).mono fun _ _ h => h.elim, HVr.out.later (below_drew' wr)⟩) ?_
        refine wpI_reads (C := fun V => ∃ n, V = wA n) 10 (by decide) rfl (fun L V h => h) (fun j _ _ L V h => h) ?_
        simp only [List.drop_zero, List.take_succ_cons, List.take_zero]
        refine wpQuiet_load_rd rfl 95 (.tmp 2) rfl rfl (fun V hV => by obtain ⟨n, rfl⟩ := hV; exact (HRA.out n).rd) Tryz.underlying95 rfl a95 ?_
        simp only [Act.put, List.setIfInBounds_toArray, List.set_cons_succ, List.set_cons_zero]
        repeat (go_big_quiet_step (fail))
        refine wpQuiet_nil ?_
        simp only [Nat.zero_add]
        refine wpI_effG rfl rfl (.bool (decB D L G s.other)) ?_ ?_
        · intro L' V hL _ hS
          obtain ⟨n, rfl⟩ := hS
          go_wp2_with fail
          refine (HDc.out n).mono ?_
          rintro e w3 ⟨rfl, hb⟩
          go_wp2_with fail
          exact ⟨rfl, HNx.out n _ hb⟩
        simp only [Act.put, List.setIfInBounds_toArray, List.set_cons_succ, List.set_cons_zero]
        refine wpI_reads (C := fun V => ∃ n, V = wA n) 1 (by decide) rfl (fun L V h => h) (fun j _ _ L V h => h) ?_
        simp only [List.drop_succ_cons, List.drop_zero, List.take_succ_cons, List.take_zero]
        repeat (go_big_quiet_step (fail))
        refine wpQuiet_nil ?_
        refine wpI_eff rfl rfl undef ?_ ?_
        · intro L' V hL _ hS
          obtain ⟨n, rfl⟩ := hS
          refine wpList_store_all (g := hc s.latest) rfl 95 (.tmp 2) (.tmp 81) rfl rfl rfl (HRA.out n) a95 (fun i hi => hc_one _ i hi) ?_
          intro w8 hu8 hs8 hk8 hr8
          simp only [Act.put]
          have H8 := Lib.hid (HSt.out n _ hu8 hr8)
          clear hu8 hs8 hk8 hr8
          go_wp2_with fail
          exact H8.out
        simp only [Act.put, List.setIfInBounds_toArray, List.set_cons_succ, List.set_cons_zero]
        refine wpI_reads (C := fun V => ∃ n, V = wA n) 2 (by decide) rfl (fun L V h => h) (fun j _ _ L V h => h) ?_
        simp only [List.drop_succ_cons, List.drop_zero, List.take_succ_cons, List.take_zero]
        repeat (go_big_quiet_step (fail))
        refine wpQuiet_nil ?_
        refine wpI_end (by decide) ?_
        intro L' V _ hS
        obtain ⟨n, rfl⟩ := hS
        go_wp2_with fail
        refine bodyPost_ret (v := .tuple #[hv s.latest, .bool s.found, .bool (decB D L G s.other)]) (results_cell_slot2 Tryz.results47 (b := w.heap.size) rfl (HRA.out n).rd Tryz.underlying95 rfl a95) rfl ?_
        exact HEnd.out n _ rfl
end Go.Proofs.YtgelingkifafeaaGreatDoor

/- An archive is opened: the heads. -/
namespace Go.Proofs.YtgelingkifafeaaGreatDoor
open Go Go.RowKit Go.Proofs Lin
set_option maxRecDepth 100000
set_option linter.unusedVariables false

def opnHd (D L G : Nat) : Hd := ⟨0, D, L, G, 0, 0, 0⟩
/-- Do the params of a head fit? -/
def Hd.fits (h : Hd) (D L G : Nat) : Bool := decide (h.D = D ∧ h.L = L ∧ h.G = G)
/-- What an archive opens to, where no catalogue is to be read. -/
def opnTo (D L G : Nat) (h : Hd) (s : HdSt) : Option Nat × Hd × Arr :=
  if s.found then if s.latest.fits D L G then (none, s.latest, annTo true s.latest s.A (D + L + G)) else (some 1, h, s.A)
  else if s.fresh && decB D L G s.other then (none, opnHd D L G, annTo false (opnHd D L G) s.A (D + L + G)) else (some 3, h, s.A)
def errV : Option Nat → Value
  | none => .nilIface
  | some k => .iface 34 (I k)
def OpnIs (w : World) (ar cb kb : Nat) (l : ArrL) (A : Arr) (D L G : Nat) (cv : Value) (β : Nat → Nat) (ov lv bv : Value) (r : Option Nat × Hd × Arr) (e : Ending) (w' : World) : Prop :=
  e = .returned (errV r.1) ∧ ArcAt w' ar cb kb l r.2.2 D L G cv β r.2.1 ov lv bv ∧ Upd (fun b => l.own A.n b ∨ b = ar) w w'

theorem ArcAt.setHd {w w' : World} {ar cb kb : Nat} {l : ArrL} {A : Arr} {D L G : Nat} {cv : Value} {β : Nat → Nat} {h h' : Hd} {ov lv bv : Value} (H : ArcAt w ar cb kb l A D L G cv β h ov lv bv)
    (hu : Upd (· = ar) w w') (hk : KdKept w w') (hr : Row w' ar 0 13 (fun i => if 3 ≤ i ∧ i < 3 + 7 then hc h' (i - 3) else acell l.ab cb kb h ov lv bv i)) : ArcAt w' ar cb kb l A D L G cv β h' ov lv bv :=
  ⟨hr.congr fun i hi => by
      unfold acell
      by_cases h0 : i = 0
      · subst h0; rfl
      · by_cases h1 : i = 1
        · subst h1; rfl
        · by_cases h2 : i = 2
          · subst h2; rfl
          · by_cases h3 : i < 10
            · rw [if_pos ⟨by omega, by omega⟩, if_neg h0, if_neg h1, if_neg h2, if_pos h3]
            · rw [if_neg (by omega), if_neg h0, if_neg h1, if_neg h2, if_neg h3, if_neg h0, if_neg h1, if_neg h2, if_neg h3],
    hk _ _ H.kd, H.arr.kept hu (fun b hb _ e => H.notOwn (e ▸ hb)),
    H.cd.kinds hu (fun b hb t ht => by
      have e : t = 99 := by
        rcases Nat.decEq t 99 with hne | he
        · exact absurd rfl ((hb ▸ ht : Kd w ar t).ne H.kd hne)
        · exact he
      subst e; decide) (by have := H.right.d1; omega), H.right, H.n, H.wait⟩

set_option maxHeartbeats 400000 in
theorem neq_par (a b c x y z : Nat) (w : World) : (binOp .neq 23 (.agg #[I a, I b, I c]) (.agg #[I x, I y, I z])).run Tryz.prog w = .ok (.bool (!decide (a = x ∧ b = y ∧ c = z))) w := by
  by_cases e : a = x ∧ b = y ∧ c = z
  · obtain ⟨rfl, rfl, rfl⟩ := e; simp [go_sem]
  · have hd : decide (a = x ∧ b = y ∧ c = z) = false := decide_eq_false e
    rw [hd]
    simp [go_sem]
    intro e1 e2 e3
    exact e ⟨by omega, by omega, by omega⟩
theorem wpQuiet_neq_par {ops : Array Oper} {C : World → Prop} {Q : Act → Prop} {o : Oper} {rest : List Oper} {a : Act} (hw : Region.wanted o (yielded ops a.tmps) = true) (p q : Operand) (ho : o.op = .binOp .neq 23 p q 23)
    (x y z x' y' z' : Nat) (hp : a.eval p = .agg #[I x, I y, I z]) (hq : a.eval q = .agg #[I x', I y', I z']) (e : Bool) (he : (!decide (x = x' ∧ y = y' ∧ z = z')) = e) (hk : wpQuiet Tryz.prog ops C Q rest (a.put o.dst (.bool e))) : wpQuiet Tryz.prog ops C Q (o :: rest) a := by
  subst he
  refine wpQuiet_valG hw _ (fun w hw => ?_) hk
  have hm : Tryz.prog.eqGuardType Tryz.prog.depth 23 = false := by kernel_rfl
  have he := neq_par x y z x' y' z' w
  unfold execOp
  simp only [ho, hp, hq, Sem.run_bind, Sem.run_pure, run_eqGuard_agg w .neq 23 p q _ _ hm, Result.andThen_ok, he]

set_option maxHeartbeats 4000000 in
theorem opn_any (w : World) (ar cb kb : Nat) (l : ArrL) (A : Arr) (D L G : Nat) (cv : Value) (β : Nat → Nat) (h : Hd) (ov lv bv : Value) (H : ArcAt w ar cb kb l A D L G cv β h ov lv bv) (s : HdSt) (hs : s = hdTo A (D + L + G)) (hsz : s.found = true → s.latest.fits D L G = true → s.latest.size = 0) :
    Calls Tryz.prog 31 #[.pointer (some ⟨ar, 0, none⟩)] w (OpnIs w ar cb kb l A D L G cv β ov lv bv (opnTo D L G h s)) := by
  have HHd := Lib.hid (heads_any w ar cb kb l A D L G cv β h ov lv bv H)
  have HH := Lib.hid H
  have HN := Lib.hid H.n
  have HSz := Lib.hid hsz
  obtain ⟨n1, n2⟩ := hdTo_n A (D + L + G)
  rw [← hs] at n1 n2
  have HOk := Lib.hid (show s.latest.ok from by rw [hs]; exact hdTo_ok A _)
  have HS := Lib.hid hs
  have Hn1 := Lib.hid n1
  have hn0 : 0 < A.n := by rw [H.n]; have := H.right.d1; omega
  have Hn0 := Lib.hid hn0
  clear H hsz hs hn0
  go_enter Tryz.func31, Tryz.ntmps31
  go_upto_region 3 with (first | (go_at_call 47; refine HHd.out.mono ?_; rintro e w1 ⟨rfl, hA1, hu1⟩; rw [← HS.out] at hA1 ⊢) | (refine wpList_store_all (g := hc s.latest) rfl 95 (.tmp 3) (.tmp 14) rfl rfl rfl (Row.box w1 7 (hc hd0) 95) a95 (fun i hi => hc_one _ i hi) ?_; intro w2 hu2 hs2 hk2 hr2; simp only [Act.put]))
  have hb2 : Below w1.heap.size w1 w2 := Below.upd ((Below.refl _ w1).alloc (Nat.le_refl _) _) hu2 (fun _ h => h ▸ Nat.le_refl _) (by simp)
  have HK2 := Lib.hid ((HH.out.turned hu1 (fun b hb => .inr (.inl ⟨hb, Hn0.out⟩)) hA1 n1 n2).later hb2)
  have HU2 := Lib.hid ((hu1.mono (fun b _ hb => .inl (.inr (.inl ⟨hb, Hn0.out⟩)))).trans (Upd.of_below hb2) (fun _ h _ => h.elim) : Upd (fun b => l.own A.n b ∨ b = ar) w w2)
  have HR2 := Lib.hid hr2
  have HOk2 := HOk
  clear hb2 hu1 hA1 hu2 hs2 hk2 hr2 HHd n1 n2 HS
  have q1 : w2.cell? ⟨w1.heap.size, 1, none⟩ = some (I s.latest.D) := HR2.out.cell 1 (by omega)
  have q2 : w2.cell? ⟨w1.heap.size, 2, none⟩ = some (I s.latest.L) := HR2.out.cell 2 (by omega)
  have q3 : w2.cell? ⟨w1.heap.size, 3, none⟩ = some (I s.latest.G) := HR2.out.cell 3 (by omega)
  have c1 := HK2.out.c1
  have p0 := HK2.out.p0; have p1 := HK2.out.p1; have p2 := HK2.out.p2
  cases hf : s.found with
  | true =>
    refine wp_region_quiet_lit (by kernel_rfl) (by kernel_rfl) ?_
    repeat (go_big_quiet_step (fail))
    cases hfit : s.latest.fits D L G with
    | true =>
      have HO := Lib.hid (show opnTo D L G h s = (none, s.latest, annTo true s.latest s.A (D + L + G)) from by unfold opnTo; rw [if_pos hf, if_pos hfit])
      refine wpQuiet_neq_par rfl (.tmp 22) (.tmp 30) rfl _ _ _ _ _ _ rfl rfl false (by unfold Hd.fits at hfit; rw [hfit]; rfl) ?_
      simp only [Act.put, List.setIfInBounds_toArray, List.set_cons_succ, List.set_cons_zero]
      repeat (go_big_quiet_step (fail))
      refine wpQuiet_nil ?_
      clear q1 q2 q3 c1 p0 p1 p2
      rintro w3 ⟨nq, hw3⟩
      have hbn : Below w2.heap.size w2 w3 := by subst hw3; exact ⟨rfl, rfl, rfl, Nat.le_refl _, fun _ _ => rfl⟩
      have HK3 := Lib.hid (HK2.out.later hbn)
      have HU3 := Lib.hid (HU2.out.trans (Upd.of_below hbn) (fun _ h _ => h.elim) : Upd (fun b => l.own A.n b ∨ b = ar) w w3)
      have HR3 := Lib.hid (HR2.out.later hbn)
      clear hbn hw3 HK2 HU2 HR2
      go_upto_region 11 with (first | (refine wpList_load_rd rfl 95 (.tmp 3) rfl rfl HR3.out.rd Tryz.underlying95 rfl a95 ?_; simp only [Act.put, List.setIfInBounds_toArray, List.set_cons_succ, List.set_cons_zero]) | (refine wpList_store_in (k := 3) (n := 7) (N := 13) (g := hc s.latest) rfl 95 (.tmp 39) (.tmp 37) rfl rfl rfl HK3.out.top (by omega) a95 (fun i hi => hc_one _ i hi) ?_; intro w4 hu4 hs4 hk4 hr4; simp only [Act.put]))
      have HK4 := Lib.hid (HK3.out.setHd (h' := s.latest) hu4 hk4 hr4)
      have HU4 := Lib.hid (HU3.out.trans hu4 (fun _ h _ => .inr h) : Upd (fun b => l.own A.n b ∨ b = ar) w w4)
      clear hu4 hs4 hk4 hr4 HK3 HU3 HR3
      have z4 : w4.cell? ⟨ar, 7, none⟩ = some (.int .i64 0) := by
        have := HK4.out.hdRow.cell 4 (by omega)
        rw [show hc s.latest 4 = I (s.latest.size) from rfl, HSz.out hf hfit] at this
        exact this
      have HAn := Lib.hid (announce_any w4 ar cb kb l s.A D L G cv β (s.latest) ov lv bv true HK4.out HOk.out)
      go_wp2_with (go_at_call 48; refine HAn.out.mono ?_; rintro e w5 ⟨rfl, hA5, hu5⟩; have HK5 := Lib.hid (HK4.out.turned hu5 (fun _ h => h) hA5 (annTo_n _ _ _ _).1 (annTo_n _ _ _ _).2); have HU5 := Lib.hid (HU4.out.trans hu5 (fun _ h _ => .inl (by rwa [Hn1.out] at h)) : Upd (fun b => l.own A.n b ∨ b = ar) w w5); clear hA5 hu5)
      go_ret
      exact ⟨by rw [HO.out]; rfl, by rw [HO.out]; exact HK5.out, HU5.out⟩
    | false =>
      have HO := Lib.hid (show opnTo D L G h s = (some 1, h, s.A) from by unfold opnTo; rw [if_pos hf, if_neg (by rw [hfit]; decide)])
      refine wpQuiet_neq_par rfl (.tmp 22) (.tmp 30) rfl _ _ _ _ _ _ rfl rfl true (by unfold Hd.fits at hfit; rw [hfit]; rfl) ?_
      simp only [Act.put, List.setIfInBounds_toArray, List.set_cons_succ, List.set_cons_zero]
      repeat (go_big_quiet_step (fail))
      refine wpQuiet_nil ?_
      clear q1 q2 q3 c1 p0 p1 p2
      rintro w3 ⟨nq, hw3⟩
      have hbn : Below w2.heap.size w2 w3 := by subst hw3; exact ⟨rfl, rfl, rfl, Nat.le_refl _, fun _ _ => rfl⟩
      have HK3 := Lib.hid (HK2.out.later hbn)
      have HU3 := Lib.hid (HU2.out.trans (Upd.of_below hbn) (fun _ h _ => h.elim) : Upd (fun b => l.own A.n b ∨ b = ar) w w3)
      have HR3 := Lib.hid (HR2.out.later hbn)
      clear hbn hw3 HK2 HU2 HR2
      go_wp2_with fail
      go_ret
      exact ⟨by rw [HO.out]; rfl, by rw [HO.out]; exact HK3.out, HU3.out⟩
  | false =>
    refine wp_region_quiet_lit (by kernel_rfl) (by kernel_rfl) ?_
    repeat (go_big_quiet_step (fail))
    refine wpQuiet_nil ?_
    clear q1 q2 q3 c1 p0 p1 p2
    rintro w3 ⟨nq, hw3⟩
    have hbn : Below w2.heap.size w2 w3 := by subst hw3; exact ⟨rfl, rfl, rfl, Nat.le_refl _, fun _ _ => rfl⟩
    have HK3 := Lib.hid (HK2.out.later hbn)
    have HU3 := Lib.hid (HU2.out.trans (Upd.of_below hbn) (fun _ h _ => h.elim) : Upd (fun b => l.own A.n b ∨ b = ar) w w3)
    have HR3 := Lib.hid (HR2.out.later hbn)
    clear hbn hw3 HK2 HU2 HR2
    cases hfr : (s.fresh && decB D L G s.other) with
    | true =>
      have HO := Lib.hid (show opnTo D L G h s = (none, opnHd D L G, annTo false (opnHd D L G) s.A (D + L + G)) from by unfold opnTo; rw [if_neg (by rw [hf]; decide), if_pos hfr])
      have c1 := HK3.out.c1
      have p0 := HK3.out.p0; have p1 := HK3.out.p1; have p2 := HK3.out.p2
      have h7 := HK3.out.right.sum
      have HOkN := Lib.hid (show (opnHd D L G).ok from ⟨by show D < 256; omega, by show L < 256; omega, by show G < 256; omega, by show (0:Nat) < _; decide, by show (0:Nat) < _; decide, by show (0:Nat) < _; decide, by show (0:Nat) < _; decide⟩)
      go_upto_region 9 with (refine wpList_store_in (k := 3) (n := 7) (N := 13) (g := hc (opnHd D L G)) rfl 95 (.tmp 53) (.tmp 51) rfl rfl rfl HK3.out.top (by omega) a95 (fun i hi => hc_one _ i hi) ?_; intro w4 hu4 hs4 hk4 hr4; simp only [Act.put])
      clear c1 p0 p1 p2
      have HK4 := Lib.hid (HK3.out.setHd (h' := opnHd D L G) hu4 hk4 hr4)
      have HU4 := Lib.hid (HU3.out.trans hu4 (fun _ h _ => .inr h) : Upd (fun b => l.own A.n b ∨ b = ar) w w4)
      clear hu4 hs4 hk4 hr4 HK3 HU3 HR3
      have HAn := Lib.hid (announce_any w4 ar cb kb l s.A D L G cv β (opnHd D L G) ov lv bv false HK4.out HOkN.out)
      go_wp2_with (go_at_call 48; refine HAn.out.mono ?_; rintro e w5 ⟨rfl, hA5, hu5⟩; have HK5 := Lib.hid (HK4.out.turned hu5 (fun _ h => h) hA5 (annTo_n _ _ _ _).1 (annTo_n _ _ _ _).2); have HU5 := Lib.hid (HU4.out.trans hu5 (fun _ h _ => .inl (by rwa [Hn1.out] at h)) : Upd (fun b => l.own A.n b ∨ b = ar) w w5); clear hA5 hu5)
      go_ret
      exact ⟨by rw [HO.out]; rfl, by rw [HO.out]; exact HK5.out, HU5.out⟩
    | false =>
      have HO := Lib.hid (show opnTo D L G h s = (some 3, h, s.A) from by unfold opnTo; rw [if_neg (by rw [hf]; decide), if_neg (by rw [hfr]; decide)])
      go_wp2_with fail
      go_ret
      exact ⟨by rw [HO.out]; rfl, by rw [HO.out]; exact HK3.out, HU3.out⟩
end Go.Proofs.YtgelingkifafeaaGreatDoor

/- The plain law of Open: sound drives. -/
namespace Go.Proofs.YtgelingkifafeaaGreatDoor
open Go Go.RowKit Go.Proofs Lin
set_option linter.unusedVariables false

/-- All drives are there; x d is what stands in the first block of drive d. -/
structure Sd (A : Arr) (N : Nat) (x : Nat → Nat → UInt8) : Prop where
  n : A.n = N
  m : 0 < A.m
  wait : A.wait < 0
  lost : ∀ d, d < N → (A.drv d).lost = false
  bad : ∀ d, d < N → (A.drv d).bad 0 = false
  blk : ∀ d, d < N → (A.drv d).blk 0 = x d
section
variable {A : Arr} {N d : Nat} {x : Nat → Nat → UInt8}
theorem Sd.err (h : Sd A N x) (hd : d < N) : A.err d (0 : Nat) = none := by
  have := h.n; have := h.m; have := h.wait
  unfold Arr.err
  rw [if_neg (by omega), if_neg (by rintro (h1 | h1 | h1); omega; omega; rw [Int.toNat_natCast, h.lost d hd] at h1; cases h1), if_neg (by omega)]
theorem Sd.rd (h : Sd A N x) (hd : d < N) : A.rd d 0 = (none, x d, A.saw d) := by
  unfold Arr.rd
  rw [h.err hd]
  simp only [h.bad d hd, h.blk d hd]
  rfl
theorem Sd.saw (h : Sd A N x) (d : Nat) : Sd (A.saw d) N x := by
  refine ⟨h.n, h.m, h.wait, fun e he => ?_, fun e he => ?_, fun e he => ?_⟩
  · show (if e = d then _ else A.drv e).lost = false
    split
    · rename_i e1; subst e1; exact h.lost e he
    · exact h.lost e he
  · show (if e = d then _ else A.drv e).bad 0 = false
    split
    · rename_i e1; subst e1; exact h.bad e he
    · exact h.bad e he
  · show (if e = d then _ else A.drv e).blk 0 = x e
    split
    · rename_i e1; subst e1; exact h.blk e he
    · exact h.blk e he

theorem hdTo_zero (h : Sd A N (fun _ _ => 0)) : ∀ k, k ≤ N → ∃ A', hdTo A k = ⟨hd0, false, decide (0 < k), 0, A'⟩ ∧ Sd A' N (fun _ _ => 0)
  | 0, _ => ⟨A, rfl, h⟩
  | k + 1, hk => by
    obtain ⟨A', e, h'⟩ := hdTo_zero h k (by omega)
    refine ⟨A'.saw k, ?_, h'.saw k⟩
    show hdStep (hdTo A k) k = _
    rw [e]
    unfold hdStep
    simp only [h'.rd (show k < N by omega)]
    rw [if_neg (by simp), if_pos (by decide)]
    simp
theorem Sd.wr (h : Sd A N x) (hd : d < N) (f : Frm.Frm) : Sd (A.wrF d 0 f) N (fun e => if e = d then Frm.blk f else x e) := by
  have e0 : A.wrF d 0 f = A.set d { A.drv d with blk := fun c => if c = 0 then Frm.blk f else (A.drv d).blk c, bad := fun c => if c = 0 then false else (A.drv d).bad c } := by
    unfold Arr.wrF Arr.wr
    rw [h.err hd]
  rw [e0]
  refine ⟨h.n, h.m, h.wait, fun e he => ?_, fun e he => ?_, fun e he => ?_⟩
  · show (if e = d then _ else A.drv e).lost = false
    split
    · rename_i e1; subst e1; exact h.lost e he
    · exact h.lost e he
  · show (if e = d then _ else A.drv e).bad 0 = false
    split
    · rfl
    · exact h.bad e he
  · show (if e = d then _ else A.drv e).blk 0 = if e = d then _ else x e
    split
    · rfl
    · exact h.blk e he
theorem annTo_first (h : Sd A N x) (hd : Hd) : ∀ k, k ≤ N → Sd (annTo false hd A k) N (fun e => if e < k then Frm.blk (cFrm hd e) else x e)
  | 0, _ => by simpa [annTo] using h
  | k + 1, hk => by
    have h' := (annTo_first h hd k (by omega)).wr (show k < N by omega) (cFrm hd k)
    have e : (fun e => if e < k + 1 then Frm.blk (cFrm hd e) else x e) = fun e => if e = k then Frm.blk (cFrm hd k) else if e < k then Frm.blk (cFrm hd e) else x e := by
      funext e
      by_cases h1 : e = k
      · subst h1; simp
      · by_cases h2 : e < k
        · rw [if_pos (by omega), if_neg h1, if_pos h2]
        · rw [if_neg (by omega), if_neg h1, if_neg h2]
    rw [e]
    exact h'
end
end Go.Proofs.YtgelingkifafeaaGreatDoor
