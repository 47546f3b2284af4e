import Derived.Test.YthaamnjpjkkolabDoorReads
import Derived.Test.YthaamnjpjkkolabDoorMaHeld
import Derived.Test.YthaamnjpjkkolabDoorCombine
import Derived.Test.YthaamnjpjkkolabDoorPg
import Derived.Test.YthaamnjpjkkolabDoorAllS
/- The program that repairs a set: Compile. -/
namespace Go.Proofs.YthaamnjpjkkolabDoor
open Go.RowKit Go.Proofs Lin Go.Shelf
set_option maxRecDepth 100000
set_option linter.unusedVariables false

attribute [local go_sem] Oper.semAt_some

def CompIs (w : World) (D L G y : Nat) (e : Ending) (w' : World) : Prop :=
  (decB D L G y = true ∧ (∃ v, e = .returned (.tuple #[.agg #[I (regsN D L (D + L + G) y : Nat), v], .nilIface]) ∧ V4 w' w.heap.size 84 v (progL D L (D + L + G) y).length (fun i => sc ((progL D L (D + L + G) y).getD i Sd))) ∨
   decB D L G y = false ∧ e = .returned (.tuple #[.agg #[I 0, .slice none 0 0], .iface 33 (I 3)])) ∧ Below w.heap.size w w'

/-- A call of a Go function by its name, with what its arguments are. -/
theorem wpOp_callFn {P : Program} {ops : Array Oper} {Q : Exit → Act → World → Prop} {i : Nat} {o : Oper} {K : Act → World → Prop} {a : Act} {w : World} {k : FuncId} {x y : Operand} {tys : Array TypeId} {vx vy : Value} {R : Ending → World → Prop} (d : Option Tmp) (hd : o.dst = d) (ho : ops[i]? = some o) (hg : o.guard = none)
    (hop : o.op = .call { callee := .value (.func k), args := #[x, y], argTypes := tys }) (hx : a.eval x = vx) (hy : a.eval y = vy) (eg : ∀ args w, (callFunc k args).run P w = .ok (.enter k args) w) (hc : Calls P k #[vx, vy] w R)
    (h : ∀ e w', R e w' → ∃ v, e = .returned v ∧ K (a.put d v) w') : wpOp P ops Q i K a w := by
  subst hd
  refine wpOp_of ho hg ?_
  unfold Oper.wp execOp
  simp only [hop, resolve, invoke, Sem.run_bind, Sem.run_pure, Result.andThen_ok, List.map_toArray, List.map_cons, List.map_nil, hx, hy]
  simp [go_sem, eg]
  refine hc.mono fun e w' hr => ?_
  obtain ⟨v, rfl, hk⟩ := h e w' hr
  exact hk

theorem mod_sel {N x : Nat} : sel N (x % 2 ^ N).testBit = sel N x.testBit := sel_congr fun i hi => by rw [Nat.testBit_mod_two_pow]; simp [hi]

set_option maxHeartbeats 4000000 in
theorem compile_any (w0 : World) (cb D L G x : Nat) (v : Value) (β : Nat → Nat) (w : World) (hC : CodeAt w0 w cb D L G v β) (hR : Right D L G) (hx : x < 2 ^ 64) (hT : TabAt 1 Lib.deBruijn64tab w) :
    Calls Tryd.prog 38 #[.pointer (some ⟨cb, 0, none⟩), U x] w (CompIs w D L G (x % 2 ^ (D + L + G))) := by
  have h7 := hR.sum; have h1 := hR.d1; have h2 := hR.d2; have h3 := hR.l1
  have hp64 : 2 ^ (D + L + G) ≤ 2 ^ 16 := Nat.pow_le_pow_right (by omega) h7
  have HC := Lib.hid hC
  have HR := Lib.hid hR
  have HT := Lib.hid hT
  have HB0 := Lib.hid (show Below w.heap.size w ((w.alloc (.cells #[.pointer (some ⟨cb, 0, none⟩)] 76)).alloc (.cells #[I 0, .slice none 0 0] 39)) from ((Below.refl _ w).alloc (Nat.le_refl _) _).alloc (by simp) _)
  have HW := Lib.hid (fun w (h : CodeAt w0 w cb D L G v β) => whole_any w0 cb D L G x v β w h HR.out hx)
  have hy : x % 2 ^ (D + L + G) < 2 ^ (D + L + G) := Nat.mod_lt _ (Nat.pow_pos (by omega))
  generalize x % 2 ^ (D + L + G) = y at *
  have HY := Lib.hid hy
  have hy64 : y < 2 ^ 64 := by omega
  have HD := Lib.hid (fun w (h : CodeAt w0 w cb D L G v β) => decodable_any w0 cb D L G y v β w h HR.out hy64)
  have HRd := Lib.hid (fun w (h : CodeAt w0 w cb D L G v β) (hT : TabAt 1 Lib.deBruijn64tab w) => reads_any w0 cb D L G y v β w h HR.out HY.out hT)
  obtain ⟨dB, hdB⟩ : ∃ dB, dB = decB D L G y := ⟨_, rfl⟩
  rw [← hdB] at HD
  have HDB := Lib.hid hdB
  clear hC hR hx hT hp64 hdB hy
  have bC := Lib.hid ((Boxed.new w 76 (.pointer (some ⟨cb, 0, none⟩))).alloc (.cells #[I 0, .slice none 0 0] 39))
  have bP : Pair ((w.alloc (.cells #[.pointer (some ⟨cb, 0, none⟩)] 76)).alloc (.cells #[I 0, .slice none 0 0] 39)) (w.heap.size + 1) 39 (I 0) (.slice none 0 0) := by
    have h := Pair.new (w.alloc (.cells #[.pointer (some ⟨cb, 0, none⟩)] 76)) 39 (I 0) (.slice none 0 0)
    rwa [World.size_alloc] at h
  have HP := Lib.hid bP
  clear bP
  refine (callsIn_wide (n := 3)).1 (callsIn_of_wp_marks Tryd.func38 rfl trivial ?_ rfl)
  simp only [Tryd.ntmps38, List.size_toArray, List.length_cons, List.length_nil, Nat.reduceAdd, Nat.reduceSub, Array.replicate_succ, Array.replicate_zero, List.push_toArray, List.append_toArray, List.nil_append, List.cons_append]
  refine wpIn_wide.2 ?_
  go_wp2_with fail
  generalize (w.alloc (.cells #[.pointer (some ⟨cb, 0, none⟩)] 76)).alloc (.cells #[I 0, .slice none 0 0] 39) = W0 at *
  refine (HW.out _ (HC.out.later HB0.out)).mono ?_
  rintro e w1 ⟨rfl, hb⟩
  have HB1 := Lib.hid (HB0.out.trans (hb.mono HB0.out.size))
  have bC1 := Lib.hid (bxBelow bC.out hb bC.out.lt)
  have HP1 := Lib.hid (HP.out.later hb)
  have c1 := bC1.out.cell
  clear hb bC HP HB0 W0
  go_wp2_with fail
  refine (HD.out _ (HC.out.later HB1.out)).mono ?_
  rintro e w2 ⟨rfl, hb⟩
  have HB2 := Lib.hid (HB1.out.trans (hb.mono HB1.out.size))
  have bC2 := Lib.hid (bxBelow bC1.out hb bC1.out.lt)
  have HP2 := Lib.hid (HP1.out.later hb)
  have c2 := bC2.out.cell
  clear hb bC1 HP1 HB1 c1 w1
  cases dB with
  | false =>
    have p0 := HP2.out.c0; have p1 := HP2.out.c1; have p2 := HP2.out.f0; have p3 := HP2.out.f1
    have HPe := Lib.hid ((HP2.out.set0 (I 0)).set1 (.slice none 0 0))
    have hl2 := HB2.out.size
    go_wp2_with fail
    have d0 := HPe.out.c0; have d1 := HPe.out.c1
    show LeavesInM _ _ _ _ _ _ [] _ _
    refine ⟨.tuple #[.agg #[I 0, .slice none 0 0], .iface 33 (I 3)], by simp [results, Tryd.results38, go_sem, d0, d1], .inr ⟨HDB.out.symm, rfl⟩, ?_⟩
    exact (HB2.out.setCell (by show w.heap.size ≤ w.heap.size + 1; omega) _).setCell (by show w.heap.size ≤ w.heap.size + 1; omega) _
  | true =>
    go_wp2_with fail
    refine (HRd.out _ (HC.out.later HB2.out) (tab_later HT.out HB2.out)).mono ?_
    rintro e w3 ⟨rfl, hb⟩
    have HB3 := Lib.hid (HB2.out.trans (hb.mono HB2.out.size))
    have bC3 := Lib.hid (bxBelow bC2.out hb bC2.out.lt)
    have HP3 := Lib.hid (HP2.out.later hb)
    have c3 := bC3.out.cell
    clear hb bC2 HP2 HB2 c2 w2
    have HRok := Lib.hid (reads_ok h1 h2 h3 HR.out.div h7 HDB.out.symm)
    have hr16 : readsN D L (D + L + G) y < 2 ^ 16 := Nat.lt_of_lt_of_le HRok.out.lt (Nat.pow_le_pow_right (by omega) h7)
    have HRL := Lib.hid (show sel (D + L + G) (readsN D L (D + L + G) y).testBit = readL D L (D + L + G) y from rfl)
    generalize readsN D L (D + L + G) y = r at *
    have HOf := Lib.hid (fun w (h : CodeAt w0 w cb D L G v β) => of_any w0 cb D L G r v β w h HR.out (by omega))
    unfold OfEnd at HOf
    rw [HRL.out] at HOf
    go_wp2_with fail
    refine (HOf.out _ (HC.out.later HB3.out)).mono ?_
    rintro e w4 ⟨vo, rfl, hvo, hb⟩
    obtain ⟨ra, rb, rc, rfl, hra, hrr, _, hrk, _⟩ := hvo.shape
    have HB4 := Lib.hid (HB3.out.trans (hb.mono HB3.out.size))
    have bC4 := Lib.hid (bxBelow bC3.out hb bC3.out.lt)
    have HP4 := Lib.hid (HP3.out.later hb)
    have HRA := Lib.hid hra
    have HRR := Lib.hid hrr.rd
    have HRK := Lib.hid (fun h0 => (hrk h0).2)
    have c4 : ∀ o o', ((w4.alloc o).alloc o').cell? ⟨w.heap.size, 0, none⟩ = some (.pointer (some ⟨cb, 0, none⟩)) := fun o o' => ((bC4.out.alloc o).alloc o').cell
    have hcb4 : cb < w4.heap.size := Nat.lt_of_lt_of_le HC.out.kd.lt HB4.out.size
    have k0 : ∀ o o', ((w4.alloc o).alloc o').cell? ⟨cb, 0, none⟩ = some (I D) := fun o o' => cell_alloc (cell_alloc ((HB4.out.cell (p := ⟨cb, 0, none⟩) HC.out.kd.lt).trans (HC.out.par.cell 0 (by omega))) o) o'
    have k1 : ∀ o o', ((w4.alloc o).alloc o').cell? ⟨cb, 1, none⟩ = some (I L) := fun o o' => cell_alloc (cell_alloc ((HB4.out.cell (p := ⟨cb, 1, none⟩) HC.out.kd.lt).trans (HC.out.par.cell 1 (by omega))) o) o'
    have k2 : ∀ o o', ((w4.alloc o).alloc o').cell? ⟨cb, 2, none⟩ = some (I G) := fun o o' => cell_alloc (cell_alloc ((HB4.out.cell (p := ⟨cb, 2, none⟩) HC.out.kd.lt).trans (HC.out.par.cell 2 (by omega))) o) o'
    have hsz4 := HB4.out.size
    have hlt4 : w.heap.size + 1 < w4.heap.size := HP4.out.kd.lt
    clear hb bC3 HP3 HB3 c3 w3 hvo hra hrr hrk
    go_wp2_with fail
    clear c4 k0 k1 k2
    obtain ⟨rl, hrl⟩ : ∃ rl, rl = readL D L (D + L + G) y := ⟨_, rfl⟩
    rw [← hrl] at HRA HRR HRK HRL
    rw [← hrl]
    have HRL2 := Lib.hid hrl
    clear hrl
    have bC5 := Lib.hid ((bC4.out.alloc (.cells #[.slice ra rl.length rc] 97)).alloc (.cells #[I 0, .slice none 0 0] 39))
    have HP5 := Lib.hid ((HP4.out.alloc (.cells #[.slice ra rl.length rc] 97)).alloc (.cells #[I 0, .slice none 0 0] 39))
    have bM5 := Lib.hid ((Boxed.new w4 97 (.slice ra rl.length rc)).alloc (.cells #[I 0, .slice none 0 0] 39))
    have hPg : Pair ((w4.alloc (.cells #[.slice ra rl.length rc] 97)).alloc (.cells #[I 0, .slice none 0 0] 39)) (w4.heap.size + 1) 39 (I 0) (.slice none 0 0) := by
      have h := Pair.new (w4.alloc (.cells #[.slice ra rl.length rc] 97)) 39 (I 0) (.slice none 0 0)
      rwa [World.size_alloc] at h
    have HPg := Lib.hid hPg
    clear hPg
    have HB45 := Lib.hid (show Below w4.heap.size w4 ((w4.alloc (.cells #[.slice ra rl.length rc] 97)).alloc (.cells #[I 0, .slice none 0 0] 39)) from ((Below.refl _ _).alloc (Nat.le_refl _) _).alloc (by simp) _)
    have HB5 := Lib.hid (HB4.out.trans (HB45.out.mono hsz4))
    have HRR5 := Lib.hid (HRR.out.later HB45.out)
    have HRK5 := Lib.hid (fun h0 => (HRK.out h0).later HB45.out)
    have hs5 : ((w4.alloc (.cells #[.slice ra rl.length rc] 97)).alloc (.cells #[I 0, .slice none 0 0] 39)).heap.size = w4.heap.size + 2 := by simp
    generalize (w4.alloc (.cells #[.slice ra rl.length rc] 97)).alloc (.cells #[I 0, .slice none 0 0] 39) = W5 at *
    clear HRR HRK HB45 bC4 HP4
    refine (shards_any D L G (by omega) _).mono ?_
    rintro e w6 ⟨rfl, hb⟩
    have bC6 := Lib.hid (bxBelow bC5.out hb bC5.out.lt)
    have bM6 := Lib.hid (bxBelow bM5.out hb bM5.out.lt)
    have HP6 := Lib.hid (HP5.out.later hb)
    have HPg6 := Lib.hid (HPg.out.later hb)
    have HB6 := Lib.hid (HB5.out.trans (hb.mono HB5.out.size))
    have HRR6 := Lib.hid (HRR5.out.later hb)
    have HRK6 := Lib.hid (fun h0 => (HRK5.out h0).later hb)
    have hs6 := hb.size
    have HN3 := Lib.hid (show (D : Int) + (L : Int) + (G : Int) = ((D + L + G : Nat) : Int) by simp)
    clear hb bC5 bM5 HP5 HPg HB5 HRR5 HRK5
    go_wp2_with fail
    rw [HN3.out]
    refine (callsIn_wide.1 (all_in Fence.wide 3 trivial rfl r (D + L + G) _)).mono ?_
    rintro e w7 ⟨rfl, rfl⟩
    rw [← HN3.out]
    have bX7 := Lib.hid ((Boxed.new w6 91 (U r)).alloc (.cells #[I ((D : Int) + (L : Int) + (G : Int))] 3))
    have bN7 : Boxed ((w6.alloc (.cells #[U r] 91)).alloc (.cells #[I ((D : Int) + (L : Int) + (G : Int))] 3)) (w6.heap.size + 1) 3 (I ((D : Int) + (L : Int) + (G : Int))) := by
      have h := Boxed.new (w6.alloc (.cells #[U r] 91)) 3 (I ((D : Int) + (L : Int) + (G : Int)))
      rwa [World.size_alloc] at h
    have BN7 := Lib.hid bN7
    clear bN7
    have HB67 := Lib.hid (show Below w6.heap.size w6 ((w6.alloc (.cells #[U r] 91)).alloc (.cells #[I ((D : Int) + (L : Int) + (G : Int))] 3)) from ((Below.refl _ _).alloc (Nat.le_refl _) _).alloc (by simp) _)
    have bC7 := Lib.hid (bxBelow bC6.out HB67.out bC6.out.lt)
    have bM7 := Lib.hid (bxBelow bM6.out HB67.out bM6.out.lt)
    have HP7 := Lib.hid (HP6.out.later HB67.out)
    have HPg7 := Lib.hid (HPg6.out.later HB67.out)
    have HB7 := Lib.hid (HB6.out.trans (HB67.out.mono HB6.out.size))
    have HRR7 := Lib.hid (HRR6.out.later HB67.out)
    have HRK7 := Lib.hid (fun h0 => (HRK6.out h0).later HB67.out)
    have hs7 : ((w6.alloc (.cells #[U r] 91)).alloc (.cells #[I ((D : Int) + (L : Int) + (G : Int))] 3)).heap.size = w6.heap.size + 2 := by simp
    go_wp2_with fail
    refine (wpIn_wide (n := 3)).1 ?_
    generalize (w6.alloc (.cells #[U r] 91)).alloc (.cells #[I ((D : Int) + (L : Int) + (G : Int))] 3) = W7 at *
    clear HB67 bC6 bM6 HP6 HPg6 HB6 HRR6 HRK6
    refine wpIn_rangeFunc_ownG rfl (by omega) (gf := 73) (lb := #[.pointer (some ⟨w6.heap.size + 1, 0, none⟩), .pointer (some ⟨w6.heap.size, 0, none⟩)]) rfl trivial (enters_of Tryd.func73 (by kernel_rfl) rfl)
      (all_stops Fence.wide (3 - 1) trivial trivial rfl (by omega) (w6.heap.size + 1) w6.heap.size (D + L + G) r (by omega) (by omega) (KpX w.heap.size w6.heap.size) (fun A B h hc => h.cell hc) W7 (by omega) (by omega) (by rw [← HN3.out]; exact BN7.out.cell) bX7.out.cell)
      KpX.t (KpX.b (by omega) (by omega)) (Below.refl _ _) (fun _ => rfl)
      (fun (pre : List {i : Nat // i < D + L + G}) W => (∃ v, Pg w.heap.size (w4.heap.size + 1) W (loadsL (pre.map (·.1))) pre.length v) ∧ PgStep w.heap.size (w4.heap.size + 1) W7 W)
      (fun _ _ _ => False)
      (OwnFrom.and (Own.from (pg_own w.heap.size (w4.heap.size + 1) (fun pre : List {i : Nat // i < D + L + G} => loadsL (pre.map (·.1))) (fun pre => pre.length)) _) (ownFrom_upd _ _ (Nat.le_refl _)))
      (fun _ _ _ _ _ hs _ _ => hs)
      ⟨⟨_, HPg7.out, V4.nil _ _ _ _, by omega, by omega⟩, PgStep.refl _ _ _⟩
      (fun i => { tmps := #[.pointer (some ⟨cb, 0, none⟩), U y, .pointer (some ⟨w.heap.size, 0, none⟩), undef, .pointer (some ⟨w.heap.size + 1, 0, none⟩), .nilIface, U r, .pointer (some ⟨w4.heap.size, 0, none⟩), .pointer (some ⟨w4.heap.size + 1, 0, none⟩), I (i.1 : Nat), undef, undef, undef, undef, undef, .pointer (some ⟨cb, 0, none⟩), U x, U y, .pointer (some ⟨cb, 0, none⟩), U y, .bool true, .bool false, undef, undef, .pointer (some ⟨cb, 0, none⟩), U y, U r, .pointer (some ⟨cb, 0, none⟩), U r, .slice ra rl.length rc, U r, .pointer (some ⟨cb, 0, none⟩), .pointer (some ⟨cb, 0, none⟩), .pointer (some ⟨cb, 0, none⟩), .agg #[I D, I L, I G], I ((D : Int) + (L : Int) + (G : Int)), .func (.func 73) #[] #[.pointer (some ⟨w6.heap.size + 1, 0, none⟩), .pointer (some ⟨w6.heap.size, 0, none⟩)], I (i.1 : Nat), undef, undef, undef, undef, undef, undef, undef, undef, undef, undef, undef, undef, undef, undef, undef, undef, undef, undef, undef, undef, undef, undef, undef, undef, undef, undef, undef, undef, undef, undef, undef, undef, undef, undef, undef, undef, undef, undef, undef, undef, undef, undef, undef, undef, undef, undef, undef, undef, undef, undef, undef, undef, undef, undef, undef, undef, undef, undef, undef, undef, undef, undef, undef, undef, undef, undef, undef], defers := [] }) ?assign ?body ?done ?stop
    case assign =>
      intro l i W K hK
      gi_wp2
      exact hK
    case stop =>
      rintro Dd c pre W _ _ h _
      exact h.elim
    case body =>
      rintro l pre i W ⟨⟨v', hp⟩, hst⟩ hlt
      have hi := i.2
      generalize hiv : i.1 = iv at *
      have HPW := Lib.hid hp
      have HST := Lib.hid hst
      have bX8 := Lib.hid (hst.box bX7.out (by decide) (by omega))
      have p0 := hp.par.c0; have p1 := hp.par.c1; have p2 := hp.par.f0; have p3 := hp.par.f1
      have hpl : pre.length < 64 := by have := sel_len (D + L + G) r.testBit; omega
      have hll : (loadsL (pre.map (·.1))).length = pre.length := by rw [loadsL_len, List.length_map]
      have HLL := Lib.hid hll
      have hsW := hp.hW
      obtain ⟨P0, hP0⟩ : ∃ P0, P0 = loadsL (pre.map (·.1)) := ⟨_, rfl⟩
      rw [← hP0] at HPW HLL
      have HP0 := Lib.hid hP0
      clear hp hst hll hP0
      gi_wp2_with (
        gi_at_builtin
        refine stepIn_of_wide (fun ⟨_, _, h⟩ => h) _ _ _ (by kernel_rfl) ?_
        refine wpList_append_four (w := W) rfl (.tmp 39) (.tmp 44) 37 rfl w.heap.size 84 (.agg #[.int .u8 0, .int .i64 0, .int .i64 0, .int .u8 0]) 32 Tryd.underlying37 infoAS4 rfl v' P0.length _ rfl HPW.out.vs (cl 0 (pre.length : Int) (iv : Int) (.int .u8 0)) 84 rfl (cl_one _ _ _ _ rfl) (by have := HLL.out; omega) (by omega) hsW ?_
        intro v3 w3 hv3 hu3
        have HPush := Lib.hid (HPW.out.push_cl 0 (by omega) _ _ 0 hv3 hu3)
        obtain ⟨va3, vb3, vc3, rfl, _⟩ := hv3.shape
        have n1 := HPush.out.2.2.1
        have n2 := HPush.out.2.2.2
        clear hv3 hu3)
      go_wp2_with fail
      have hP9 := HPush.out.1
      have hS9 := HPush.out.2.1
      generalize w3.setCell ⟨w4.heap.size + 1, 1, none⟩ (.slice va3 (P0.length + 1) vc3) = W9 at *
      have r0 := hP9.par.c0; have r1 := hP9.par.f0
      have HR9 := Lib.hid hP9.reg
      have HS9 := Lib.hid hS9
      clear hP9 hS9 n1 n2 HPush
      gi_wp2_with fail
      have hfin : PgStep w.heap.size (w4.heap.size + 1) W (W9.setCell ⟨w4.heap.size + 1, 0, none⟩ (I (pre.length + 1 : Nat))) := HS9.out.trans HR9.out.2
      refine ⟨hfin.keeps HPW.out.par.kd _, hfin.kpx (by omega) hsW bX8.out (by decide) (by omega), ⟨.slice va3 (P0.length + 1) vc3, ?_⟩, HST.out.trans hfin⟩
      rw [List.map_append, List.map_cons, List.map_nil, hiv, loadsL_snoc, ← HP0.out, List.length_append, List.length_singleton, List.length_map]
      exact HR9.out.1
    case done =>
      rintro Dd ys W8 hD hys ⟨⟨v', hp⟩, hst⟩ hK
      have hys' : ys.map (·.1) = rl := hys.trans HRL.out
      have hyl : ys.length = rl.length := by rw [← hys', List.length_map]
      rw [hys', hyl] at hp
      have HP8' := Lib.hid hp
      have HST := Lib.hid hst
      have HB8 := Lib.hid (HB7.out.trans (hst.below (by omega) (by omega)))
      have bC8 := Lib.hid (hst.box bC7.out (by decide) (by omega))
      have bM8 := Lib.hid (hst.box bM7.out (by decide) (by omega))
      have HP8 := Lib.hid (hst.pair HP7.out (by decide) (by omega))
      have HRK8 := Lib.hid (fun h0 => hst.kd (HRK7.out h0) (by decide) (fun e => absurd (kd_uniq (HRK7.out h0) (e ▸ HPg7.out.kd)) (by decide)))
      have HRR8 := Lib.hid (hst.rd HRR7.out HRK7.out (by decide) (fun h0 e => absurd (kd_uniq (HRK7.out h0) (e ▸ HPg7.out.kd)) (by decide)))
      have HK8 := Lib.hid hK
      have hs8 := hst.size
      have hkl : Dd < W8.heap.size := (Array.getElem?_eq_some_iff.1 hK).1
      have hrl16 : rl.length ≤ 16 := by rw [← HRL.out]; exact Nat.le_trans (sel_len _ _) h7
      clear hp hst hK hys hys' hyl bC7 bM7 HP7 HPg7 HRR7 HRK7 HB7 bX7 BN7
      have c8 := bC8.out.cell
      have k0 : W8.cell? ⟨cb, 0, none⟩ = some (I D) := (HB8.out.cell (p := ⟨cb, 0, none⟩) HC.out.kd.lt).trans (HC.out.par.cell 0 (by omega))
      have k1 : W8.cell? ⟨cb, 1, none⟩ = some (I L) := (HB8.out.cell (p := ⟨cb, 1, none⟩) HC.out.kd.lt).trans (HC.out.par.cell 1 (by omega))
      have k2 : W8.cell? ⟨cb, 2, none⟩ = some (I G) := (HB8.out.cell (p := ⟨cb, 2, none⟩) HC.out.kd.lt).trans (HC.out.par.cell 2 (by omega))
      gi_wp2
      go_wp2_with fail
      refine (shards_any D L G (by omega) _).mono ?_
      rintro e w9 ⟨rfl, hb⟩
      have hs9 := hb.size
      have bC9 := Lib.hid (bxBelow bC8.out hb bC8.out.lt)
      have bM9 := Lib.hid (bxBelow bM8.out hb bM8.out.lt)
      have HP9 := Lib.hid (HP8.out.later hb)
      have HPg9 := Lib.hid (HP8'.out.later hb)
      have HRR9 := Lib.hid (HRR8.out.later hb)
      have HRK9 := Lib.hid (fun h0 => (HRK8.out h0).later hb)
      have HB9 := Lib.hid (HB8.out.trans (hb.mono HB8.out.size))
      have HK9 := Lib.hid ((hb.block Dd hkl).trans HK8.out)
      clear hb bC8 bM8 HP8 HP8' HRR8 HRK8 HB8 HK8 c8 k0 k1 k2 HST
      go_wp2_with fail
      rw [HN3.out]
      refine (callsIn_wide.1 (all_in Fence.wide 3 trivial rfl y (D + L + G) _)).mono ?_
      rintro e w10 ⟨rfl, rfl⟩
      rw [← HN3.out]
      have bX10 := Lib.hid ((Boxed.new w9 91 (U y)).alloc (.cells #[I ((D : Int) + (L : Int) + (G : Int))] 3))
      have bN10 : Boxed ((w9.alloc (.cells #[U y] 91)).alloc (.cells #[I ((D : Int) + (L : Int) + (G : Int))] 3)) (w9.heap.size + 1) 3 (I ((D : Int) + (L : Int) + (G : Int))) := by
        have h := Boxed.new (w9.alloc (.cells #[U y] 91)) 3 (I ((D : Int) + (L : Int) + (G : Int)))
        rwa [World.size_alloc] at h
      have BN10 := Lib.hid bN10
      clear bN10
      have HB910 := Lib.hid (show Below w9.heap.size w9 ((w9.alloc (.cells #[U y] 91)).alloc (.cells #[I ((D : Int) + (L : Int) + (G : Int))] 3)) from ((Below.refl _ _).alloc (Nat.le_refl _) _).alloc (by simp) _)
      have bC10 := Lib.hid (bxBelow bC9.out HB910.out bC9.out.lt)
      have bM10 := Lib.hid (bxBelow bM9.out HB910.out bM9.out.lt)
      have HP10 := Lib.hid (HP9.out.later HB910.out)
      have HPg10 := Lib.hid (HPg9.out.later HB910.out)
      have HRR10 := Lib.hid (HRR9.out.later HB910.out)
      have HRK10 := Lib.hid (fun h0 => (HRK9.out h0).later HB910.out)
      have HB10 := Lib.hid (HB9.out.trans (HB910.out.mono HB9.out.size))
      have HK10 := Lib.hid ((HB910.out.block Dd (by omega)).trans HK9.out)
      have hs10 : ((w9.alloc (.cells #[U y] 91)).alloc (.cells #[I ((D : Int) + (L : Int) + (G : Int))] 3)).heap.size = w9.heap.size + 2 := by simp
      go_wp2_with fail
      refine (wpIn_wide (n := 3)).1 ?_
      generalize (w9.alloc (.cells #[U y] 91)).alloc (.cells #[I ((D : Int) + (L : Int) + (G : Int))] 3) = W10 at *
      clear HB910 bC9 bM9 HP9 HPg9 HRR9 HRK9 HB9 HK9
      refine wpIn_rangeFunc_ownG rfl (by omega) (gf := 73) (lb := #[.pointer (some ⟨w9.heap.size + 1, 0, none⟩), .pointer (some ⟨w9.heap.size, 0, none⟩)]) rfl trivial (enters_of Tryd.func73 (by kernel_rfl) rfl)
        (all_stopsS Fence.wide (3 - 1) trivial trivial rfl (by omega) (w9.heap.size + 1) w9.heap.size (D + L + G) y (by omega) (by omega) (KpX w.heap.size w9.heap.size) (fun A B h hc => h.cell hc) W10 (by omega) (by omega) (by rw [← HN3.out]; exact BN10.out.cell) bX10.out.cell)
        KpX.t (KpX.b (by omega) (by omega)) (Below.refl _ _) (fun _ => rfl)
        (fun (pre : List {i : Nat // i < D + L + G ∧ y.testBit i = true}) W => (∃ v, Pg w.heap.size (w4.heap.size + 1) W (loadsL rl ++ putsL D L rl (pre.map (·.1))) (rl.length + pre.length) v) ∧ PgStep w.heap.size (w4.heap.size + 1) W10 W)
        (fun _ _ _ => False)
        (OwnFrom.and (Own.from (pg_own w.heap.size (w4.heap.size + 1) (fun pre : List {i : Nat // i < D + L + G ∧ y.testBit i = true} => loadsL rl ++ putsL D L rl (pre.map (·.1))) (fun pre => rl.length + pre.length)) _) (ownFrom_upd _ _ (Nat.le_refl _)))
        (fun _ _ _ _ _ hs _ _ => hs)
        ⟨⟨_, by rw [List.map_nil, putsL_nil, List.append_nil]; exact HPg10.out⟩, PgStep.refl _ _ _⟩
        (fun i => { tmps := #[.pointer (some ⟨cb, 0, none⟩), U y, .pointer (some ⟨w.heap.size, 0, none⟩), undef, .pointer (some ⟨w.heap.size + 1, 0, none⟩), .nilIface, U r, .pointer (some ⟨w4.heap.size, 0, none⟩), .pointer (some ⟨w4.heap.size + 1, 0, none⟩), undef, I (i.1 : Nat), undef, undef, undef, undef, .pointer (some ⟨cb, 0, none⟩), U x, U y, .pointer (some ⟨cb, 0, none⟩), U y, .bool true, .bool false, undef, undef, .pointer (some ⟨cb, 0, none⟩), U y, U r, .pointer (some ⟨cb, 0, none⟩), U r, .slice ra rl.length rc, U r, .pointer (some ⟨cb, 0, none⟩), .pointer (some ⟨cb, 0, none⟩), .pointer (some ⟨cb, 0, none⟩), .agg #[I D, I L, I G], I ((D : Int) + (L : Int) + (G : Int)), .func (.func 73) #[] #[.pointer (some ⟨w6.heap.size + 1, 0, none⟩), .pointer (some ⟨w6.heap.size, 0, none⟩)], undef, undef, undef, undef, undef, undef, undef, undef, undef, undef, undef, undef, undef, undef, U y, .pointer (some ⟨cb, 0, none⟩), .pointer (some ⟨cb, 0, none⟩), .pointer (some ⟨cb, 0, none⟩), .agg #[I D, I L, I G], I ((D : Int) + (L : Int) + (G : Int)), .func (.func 73) #[] #[.pointer (some ⟨w9.heap.size + 1, 0, none⟩), .pointer (some ⟨w9.heap.size, 0, none⟩)], I (i.1 : Nat), undef, undef, undef, undef, undef, undef, undef, undef, undef, undef, undef, undef, undef, undef, undef, undef, undef, undef, undef, undef, undef, undef, undef, undef, undef, undef, undef, undef, undef, undef, undef, undef, undef, undef, undef, undef, undef, undef, undef, undef, undef, undef, undef, undef, undef, undef], defers := [] }) ?assign2 ?body2 ?done2 ?stop2
      case assign2 =>
        intro l i W K hK
        gi_wp2
        exact hK
      case stop2 =>
        rintro Dd c pre W _ _ h _
        exact h.elim
      case body2 =>
        rintro l pre i W ⟨⟨v', hp⟩, hst⟩ hlt
        have hi := i.2.1
        have hib := i.2.2
        generalize hiv : i.1 = iv at *
        have hpl : pre.length < 16 := by have := sel_len (D + L + G) y.testBit; omega
        obtain ⟨P1, hP1⟩ : ∃ P1, P1 = loadsL rl ++ putsL D L rl (pre.map (·.1)) := ⟨_, rfl⟩
        rw [← hP1] at hp
        have HP1 := Lib.hid hP1
        have HLP1 := Lib.hid (show P1.length ≤ 1000 by
          rw [hP1, List.length_append, loadsL_len]
          have q1 := putsL_len D L rl (pre.map (·.1))
          rw [List.length_map] at q1
          have q2 : pre.length * (rl.length + 1) ≤ 16 * 17 := Nat.mul_le_mul (by omega) (by omega)
          omega)
        obtain ⟨reg, hreg⟩ : ∃ reg, reg = rl.length + pre.length := ⟨_, rfl⟩
        rw [← hreg] at hp
        have HReg := Lib.hid hreg
        have hregR : rl.length ≤ reg := by omega
        have hreg32 : reg ≤ 32 := by omega
        clear hreg hP1
        have HPW := Lib.hid hp
        have HST := Lib.hid hst
        have hsW := hst.size
        have bX11 := Lib.hid (hst.box bX10.out (by decide) (by omega))
        have bC11 := Lib.hid (hst.box bC10.out (by decide) (by omega))
        have bM11 := Lib.hid (hst.box bM10.out (by decide) (by omega))
        have HBW := Lib.hid (HB10.out.trans (hst.below (by omega) (by omega)))
        have HRR11 := Lib.hid (hst.rd HRR10.out HRK10.out (by decide) (fun h0 e => absurd (kd_uniq (HRK10.out h0) (e ▸ HPg10.out.par.kd)) (by decide)))
        have HCW := Lib.hid (HC.out.later HBW.out)
        obtain ⟨va0, vb0, vc0, hv0, hva0, hvr0, _, _, _⟩ := HCW.out.gm.vc.shape
        have hva0' := hva0 (by omega)
        rw [hva0'] at hv0
        have e0 := bM11.out.cell
        have e1 := bC11.out.cell
        have e2 : W.cell? ⟨cb, 3, none⟩ = some (.slice (some ⟨vb0, 0, none⟩) (D + L + G) vc0) := by have := HCW.out.at3.cell 0 (by omega); rw [hv0] at this; exact this
        have e3 : W.cell? ⟨vb0, iv, none⟩ = some (.slice (some ⟨β iv, 0, none⟩) D D) := by have := hvr0.cell iv hi; rwa [Nat.zero_add] at this
        have hsp : Sp (RL D (codeM D L) rl) (tr D (codeM D L) iv) := by
          have h := HRok.out.spans iv (mem_sel.2 ⟨hi, hib⟩)
          rwa [HRL.out] at h
        have HCb := Lib.hid (fun Wx (hb : Below W.heap.size W Wx) => combine_any ra rb rc (β iv) rl.length D (fun j => β (rl.getD j 0)) (fun k => codeM D L (rl.getD k 0)) (codeM D L iv) Wx HRA.out (HRR11.out.later hb)
          (fun j hj => ((HCW.out.gm.row _ (readL_lt (D := D) (L := L) (x := y) (by rw [← HRL2.out]; exact getD_mem' hj))).rd.later hb)) ((HCW.out.gm.row iv hi).rd.later hb) h1 h2 hrl16 (by_rest hsp))
        obtain ⟨yv, hyv⟩ : ∃ yv, yv = byV D L rl iv := ⟨_, rfl⟩
        have hyv2 : solX D rl.length (eqM rl.length (fun k => codeM D L (rl.getD k 0)) (codeM D L iv)) = yv := hyv.symm
        rw [hyv2] at HCb
        have HYV := Lib.hid hyv
        clear hp hst hva0 hva0' hv0 hvr0 hsp hyv hyv2 hib
        have i1 : (iv : Int) < (D : Int) + (L : Int) + (G : Int) := by omega
        have i2 : (iv : Int) < ((D + L + G : Nat) : Int) := by omega
        gi_wp2_with fail
        obtain ⟨ι2, hι2, wB, hwB, HWB⟩ := later_worlds W
        have z0 := fun n => ((hwB n).cell (p := ⟨w4.heap.size, 0, none⟩) bM11.out.lt).trans e0
        have z1 := fun n => ((hwB n).cell (p := ⟨w.heap.size, 0, none⟩) bC11.out.lt).trans e1
        have z2 := fun n => ((hwB n).cell (p := ⟨cb, 3, none⟩) (World.block_lt_of_cell? _ _ e2)).trans e2
        have z3 := fun n => ((hwB n).cell (p := ⟨vb0, iv, none⟩) (World.block_lt_of_cell? _ _ e3)).trans e3
        clear hwB
        refine round_region_held_lex 8 (fun V => ∃ n, V = wB n) mixed (by kernel_rfl) (fun ⟨_, _, h⟩ => h) (by kernel_rfl) rfl (fun c a d v w h => by cases d <;> exact h) (HWB.out _ (Below.refl _ _).drew) ?_
        simp only [List.take_succ_cons, List.take_zero, List.drop_succ_cons, List.drop_zero]
        change wpQuiet _ _ _ _ (_ :: _ :: _ :: _ :: _ :: _ :: _ :: _ :: []) _
        repeat (go_big_quiet_step (fail))
        refine wpQuiet_nil ?_
        clear z0 z1 z2 z3
        refine wpOp_callFn (some 68) rfl (k := 59) (vx := .slice ra rl.length rc) (vy := .slice (some ⟨β iv, 0, none⟩) D D) rfl rfl rfl rfl rfl (enters_of Tryd.func59 (by kernel_rfl) rfl) (HCb.out _ (below_drew W)) ?_
        rintro e W12 ⟨vb2, rfl, hr12, hk12, hb12⟩
        have HB12 := Lib.hid (show Below W.heap.size W W12 from (below_drew W).trans hb12)
        have HR12 := Lib.hid hr12
        have HK12 := Lib.hid hk12
        clear hr12 hk12 hb12
        refine ⟨_, rfl, HWB.out _ HB12.out, ?_⟩
        have HPW12 := Lib.hid (HPW.out.later HB12.out)
        have hs12 := HB12.out.size
        have bX12 := Lib.hid (bxBelow bX11.out HB12.out bX11.out.lt)
        clear e0 e1 e2 e3
        unfold tailK
        simp only [Act.put, List.setIfInBounds_toArray, List.set_cons_succ, List.set_cons_zero]
        change wpQuiet _ _ _ _ (_ :: _ :: _ :: _ :: _ :: []) _
        repeat (go_big_quiet_step (fail))
        refine wpQuiet_nil ?_
        have hyk12 := fun (Wx : World) (h : PgStep w.heap.size (w4.heap.size + 1) W12 Wx) => h.rd HR12.out (fun _ => HK12.out) (by decide) (fun _ e => absurd (kd_uniq HK12.out (e ▸ HPW12.out.par.kd)) (by decide))
        have HYK := Lib.hid hyk12
        clear hyk12
        gi_wp2_with fail
        gi_loopw [73] (fun p wr => ∃ k : Nat, k ≤ rl.length ∧ p = I k ∧ (∃ v, Pg w.heap.size (w4.heap.size + 1) wr (P1 ++ addsL reg k yv) reg v) ∧ PgStep w.heap.size (w4.heap.size + 1) W12 wr) (fun p _ => rl.length - (intOf p).toNat)
        case atStart => exact ⟨0, Nat.zero_le _, rfl, ⟨_, by rw [addsL_zero, List.append_nil]; exact HPW12.out⟩, PgStep.refl _ _ _⟩
        case round =>
          obtain ⟨k, hk, rfl, ⟨v2, hp2⟩, hst2⟩ := hrel
          have hsr := hst2.size
          have hsb := hp2.hW
          have q0 := hp2.par.c0; have q1 := hp2.par.c1; have q2 := hp2.par.f0; have q3 := hp2.par.f1
          have hrd := HYK.out _ hst2
          obtain ⟨P2, hP2⟩ : ∃ P2, P2 = P1 ++ addsL reg k yv := ⟨_, rfl⟩
          have hl2 : P2.length ≤ 1100 := by
            rw [hP2, List.length_append]
            have h1 := HLP1.out
            have h2 := addsL_len reg k yv
            omega
          rw [← hP2] at hp2
          have HPx := Lib.hid hp2
          have HSx := Lib.hid hst2
          by_cases hlt : k < rl.length
          · have kc : wr.cell? ⟨vb2, k, none⟩ = some (B (yv k)) := by have h := hrd k hlt; rwa [Nat.zero_add] at h
            have HP2n := Lib.hid (show P1 ++ addsL reg (k + 1) yv = if yv k != 0 then P2 ++ [⟨1, (reg : Int), (k : Int), yv k⟩] else P2 by
              rw [addsL_succ, hP2]
              split
              · rw [List.append_assoc]
              · rfl)
            clear hp2 hst2 hrd hP2
            obtain ⟨z, hz⟩ : ∃ z, z = yv k := ⟨_, rfl⟩
            rw [← hz] at kc HP2n
            clear hz
            by_cases h0 : z = 0
            · have t1 : ((z.toNat : Int) != 0) = false := by rw [h0]; rfl
              have HZ := Lib.hid (show (z != 0) = false by rw [h0]; rfl)
              clear h0
              gi_wp2_with fail
              go_roundw
              case rel => exact ⟨k + 1, by omega, by go_num, ⟨v2, by rw [HP2n.out, HZ.out, if_neg (by simp)]; exact HPx.out⟩, HSx.out⟩
              case measure => simp [intOf]; omega
            · have t1 : ((z.toNat : Int) != 0) = true := by
                have : z.toNat ≠ 0 := fun e => h0 (UInt8.toNat_inj.1 (by rw [e]; rfl))
                simp; exact this
              have HZ := Lib.hid (show (z != 0) = true by simpa using h0)
              clear h0
              gi_wp2_with (
                gi_at_builtin
                refine stepIn_of_wide (fun ⟨_, _, h⟩ => h) _ _ _ (by kernel_rfl) ?_
                refine wpList_append_four (w := wr) rfl (.tmp 81) (.tmp 87) 37 rfl w.heap.size 84 (.agg #[.int .u8 0, .int .i64 0, .int .i64 0, .int .u8 0]) 32 Tryd.underlying37 infoAS4 rfl v2 P2.length _ rfl HPx.out.vs (cl 1 (reg : Int) (k : Int) (B z)) 84 rfl (cl_one _ _ _ _ rfl) (by omega) (by omega) hsb ?_
                intro v3 w3 hv3 hu3
                have HPush := Lib.hid (HPx.out.push_cl 1 (by omega) _ _ z hv3 hu3)
                obtain ⟨va3, vb3, vc3, rfl, _⟩ := hv3.shape
                have n1 := HPush.out.2.2.1
                have n2 := HPush.out.2.2.2
                clear hv3 hu3)
              go_wp2_with fail
              have hP9 := HPush.out.1
              have hS9 := HPush.out.2.1
              generalize w3.setCell ⟨w4.heap.size + 1, 1, none⟩ (.slice va3 (P2.length + 1) vc3) = W9 at *
              have HP9 := Lib.hid hP9
              have HS9 := Lib.hid (HSx.out.trans hS9)
              clear hP9 hS9 n1 n2 HPush
              gi_wp2_with fail
              go_roundw
              case rel => exact ⟨k + 1, by omega, by go_num, ⟨_, by rw [HP2n.out, HZ.out, if_pos rfl]; exact HP9.out⟩, HS9.out⟩
              case measure => simp [intOf]; omega
          · obtain rfl : k = rl.length := by omega
            have HP2e := Lib.hid hP2
            clear hp2 hst2 hrd hP2
            gi_wp2_with (
              gi_at_builtin
              refine stepIn_of_wide (fun ⟨_, _, h⟩ => h) _ _ _ (by kernel_rfl) ?_
              refine wpList_append_four (w := wr) rfl (.tmp 92) (.tmp 97) 37 rfl w.heap.size 84 (.agg #[.int .u8 0, .int .i64 0, .int .i64 0, .int .u8 0]) 32 Tryd.underlying37 infoAS4 rfl v2 P2.length _ rfl HPx.out.vs (cl 2 (reg : Int) (iv : Int) (.int .u8 0)) 84 rfl (cl_one _ _ _ _ rfl) (by omega) (by omega) hsb ?_
              intro v3 w3 hv3 hu3
              have HPush := Lib.hid (HPx.out.push_cl 2 (by omega) _ _ 0 hv3 hu3)
              obtain ⟨va3, vb3, vc3, rfl, _⟩ := hv3.shape
              have n1 := HPush.out.2.2.1
              have n2 := HPush.out.2.2.2
              clear hv3 hu3)
            go_wp2_with fail
            have hP9 := HPush.out.1
            have hS9 := HPush.out.2.1
            generalize w3.setCell ⟨w4.heap.size + 1, 1, none⟩ (.slice va3 (P2.length + 1) vc3) = W9 at *
            have r0 := hP9.par.c0; have r1 := hP9.par.f0
            have HR9 := Lib.hid hP9.reg
            have HS9 := Lib.hid hS9
            clear hP9 hS9 n1 n2 HPush
            gi_wp2_with fail
            have hfin : PgStep w.heap.size (w4.heap.size + 1) W (W9.setCell ⟨w4.heap.size + 1, 0, none⟩ (I (reg + 1 : Nat))) := (PgStep.of_below HB12.out).trans (HSx.out.trans (HS9.out.trans HR9.out.2))
            refine ⟨hfin.keeps HPW.out.par.kd _, hfin.kpx (by omega) HPW.out.hW bX11.out (by decide) (by omega), ⟨.slice va3 (P2.length + 1) vc3, ?_⟩, HST.out.trans hfin⟩
            rw [List.map_append, List.map_cons, List.map_nil, hiv, putsL_snoc, ← List.append_assoc, ← HP1.out, List.length_append, List.length_singleton, List.length_map, ← Nat.add_assoc, ← HReg.out]
            unfold putL
            rw [← HReg.out, ← HYV.out, ← List.append_assoc, ← HP2e.out]
            exact HR9.out.1
      case done2 =>
        rintro Dd2 ys W hD2 hys ⟨⟨v', hp⟩, hst⟩ hK
        have hys' : ys.map (·.1) = lostL (D + L + G) y := hys
        have hyl : ys.length = (lostL (D + L + G) y).length := by rw [← hys', List.length_map]
        rw [hys', hyl] at hp
        have hne2 : Dd2 ≠ Dd := fun e => by have h := (Array.getElem?_eq_some_iff.1 HK10.out).1; omega
        have HKD : W.heap[Dd]? = some (.deferred (some [])) := (hst.block Dd (Array.getElem?_eq_some_iff.1 HK10.out).1 (fun e => by
          rcases e with e | ⟨_, cs, e⟩
          · omega
          · rw [HK10.out] at e; cases e)).trans HK10.out
        have HKD' := Lib.hid HKD
        have HK2 := Lib.hid hK
        have HPr := Lib.hid (hst.pair HP10.out (by decide) (by omega))
        have HBW := Lib.hid (HB10.out.trans (hst.below (by omega) (by omega)))
        have HPF := Lib.hid hp
        obtain ⟨pa, pb, pc, rfl, _⟩ := hp.vs.shape
        have p0 := hp.par.c0; have p1 := hp.par.c1
        have q0 := HPr.out.c0; have q1 := HPr.out.c1; have q2 := HPr.out.f0; have q3 := HPr.out.f1
        have HRegs := Lib.hid (show rl.length + (lostL (D + L + G) y).length = regsN D L (D + L + G) y by rw [HRL2.out]; rfl)
        have HProg := Lib.hid (show loadsL rl ++ putsL D L rl (lostL (D + L + G) y) = progL D L (D + L + G) y by rw [HRL2.out]; rfl)
        rw [HRegs.out] at p0 HPF
        rw [HProg.out] at p1 HPF
        clear hp hst hK hys hys' hyl HKD
        obtain ⟨PP, hPP⟩ : ∃ PP, PP = progL D L (D + L + G) y := ⟨_, rfl⟩
        obtain ⟨rg, hrg⟩ : ∃ rg, rg = regsN D L (D + L + G) y := ⟨_, rfl⟩
        rw [← hPP] at p1 HPF
        rw [← hrg] at p0 HPF
        have HProgE := Lib.hid hPP
        have HRegsE := Lib.hid hrg
        clear hPP hrg
        gi_wp2
        go_wp2_with fail
        show LeavesInM _ _ _ _ _ _ (marksOf [Dd2, Dd]) _ _
        have hu : Upd (fun b => b = w.heap.size + 1) W ((W.setCell ⟨w.heap.size + 1, 0, none⟩ (I rg)).setCell ⟨w.heap.size + 1, 1, none⟩ (.slice pa PP.length pc)) := ((Upd.refl (fun b => b = w.heap.size + 1) W).setCell (a := ⟨w.heap.size + 1, 0, none⟩) (fun _ => rfl) _).setCell (a := ⟨w.heap.size + 1, 1, none⟩) (fun _ => rfl) _
        have hlW : w.heap.size + 1 < W.heap.size := HPr.out.kd.lt
        have hDl := (Array.getElem?_eq_some_iff.1 HKD'.out).1
        have hD2l := (Array.getElem?_eq_some_iff.1 HK2.out).1
        have hPe := (HPr.out.set0 (I rg)).set1 (.slice pa PP.length pc)
        refine leaves_marks [Dd2, Dd] _ (by simp [hne2]) (fun d hd => ?_) (fun w' e1 e2 e3 e4 e5 => ?_)
        · rcases List.mem_cons.1 hd with rfl | hd
          · exact (hu.block _ hD2l (by omega)).trans HK2.out
          · obtain rfl := List.mem_singleton.1 hd
            exact (hu.block _ hDl (by omega)).trans HKD'.out
        · have hnot : ∀ b, b ≠ Dd2 → b ≠ Dd → b ∉ [Dd2, Dd] := fun b h1 h2 h => by simp at h; omega
          have d0 : w'.cell? ⟨w.heap.size + 1, 0, none⟩ = some (I rg) := (World.cell?_of_block (a := ⟨w.heap.size + 1, 0, none⟩) (e5 (w.heap.size + 1) (hnot _ (by omega) (by omega)))).trans hPe.c0
          have d1 : w'.cell? ⟨w.heap.size + 1, 1, none⟩ = some (.slice pa PP.length pc) := (World.cell?_of_block (a := ⟨w.heap.size + 1, 1, none⟩) (e5 (w.heap.size + 1) (hnot _ (by omega) (by omega)))).trans hPe.c1
          have hu2 : Upd (fun b => b ∈ [Dd2, Dd]) ((W.setCell ⟨w.heap.size + 1, 0, none⟩ (I rg)).setCell ⟨w.heap.size + 1, 1, none⟩ (.slice pa PP.length pc)) w' := ⟨e2, e3, e4, by rw [e1]; exact Nat.le_refl _, fun b _ hb => e5 b hb⟩
          have hv1 := HPF.out.vs.kept hu (fun t ht e => HPF.out.vs.block_ne HPr.out.kd (by decide) t ht e)
          have hv2 := hv1.kept hu2 (fun t ht e => by
            have hk := (v4_cells HPF.out.vs t ht).2
            obtain ⟨cs, hk⟩ := hk
            rcases List.mem_cons.1 e with rfl | e
            · rw [HK2.out] at hk; cases hk
            · obtain rfl := List.mem_singleton.1 e
              rw [HKD'.out] at hk; cases hk)
          refine ⟨.tuple #[.agg #[I rg, .slice pa PP.length pc], .nilIface], by simp [results, Tryd.results38, go_sem, d0, d1], .inl ⟨HDB.out.symm, ?_⟩, ?_⟩
          · exact ⟨_, by rw [← HRegsE.out], by rw [← HProgE.out]; exact hv2⟩
          · exact Below.upd (Below.upd HBW.out hu (fun b e => by have e' : b = w.heap.size + 1 := e; omega) (by omega)) hu2 (fun b e => by
              rcases List.mem_cons.1 e with rfl | e
              · omega
              · obtain rfl := List.mem_singleton.1 e; omega) (by have := hu.size; omega)
end Go.Proofs.YthaamnjpjkkolabDoor
