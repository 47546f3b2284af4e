import Derived.Test.YtgelingkifafeaaGreatDoorBu26
import Derived.Test.YtgelingkifafeaaGreatDoorBu30
import Derived.Test.YtgelingkifafeaaGreatDoorBu31
import Derived.Test.YtgelingkifafeaaGreatDoorBu33
/- Replace of an archive without objects: what it does. -/
namespace Go.Proofs.YtgelingkifafeaaGreatDoor
open Go Go.RowKit Go.Proofs Lin Go.Shelf
set_option maxRecDepth 100000
set_option linter.unusedVariables false

attribute [local go_sem] Oper.semAt_some

/-- What Replace makes of an array, where no object is. -/
def repTo (A : Arr) (h : Hd) (N d : Nat) : Option Nat × Arr := if N ≤ d then (some 11, A) else (if (A.wr d 0 (Frm.blk (cFrm h d))).1.isSome then some 11 else none, (A.wr d 0 (Frm.blk (cFrm h d))).2)
def RepIs (w : World) (ar cb kb : Nat) (l : ArrL) (A : Arr) (D L G : Nat) (cv : Value) (β : Nat → Nat) (h : Hd) (bv : Value) (r : Option Nat × Arr) (e : Ending) (w' : World) : Prop :=
  e = .returned (errV r.1) ∧ ArcAt w' ar cb kb l r.2 D L G cv β h (.slice none 0 0) (.slice none 0 0) bv ∧ Upd (l.own A.n) w w'

set_option maxHeartbeats 1000000 in
theorem all1z_in (F : Fence) (n : Nat) (hF : F.fn 59) (hro : F.round = none) (lr bx ar : Nat) (W : World) (hcx : W.cell? ⟨bx, 0, none⟩ = some (.pointer (some ⟨ar, 0, none⟩))) (h10 : W.cell? ⟨ar, 10, none⟩ = some (.slice none 0 0)) (h11 : W.cell? ⟨ar, 11, none⟩ = some (.slice none 0 0)) :
    CallsIn F n Tryz.prog 59 #[.func (.yield lr) #[] #[], .pointer (some ⟨bx, 0, none⟩)] W fun e W' => (∃ v, e = .returned v) ∧ W' = W := by
  refine callsIn_of_wp Tryz.func59 rfl hF ?_ hro
  simp only [Tryz.ntmps59, List.size_toArray, List.length_cons, List.length_nil, Nat.reduceAdd, Nat.reduceSub, Array.replicate_succ, Array.replicate_zero, List.push_toArray, List.append_toArray, List.nil_append, List.cons_append]
  gi_wp2
  gi_loopw [14] (fun p wr => p = I 0 ∧ wr = W) (fun p _ => 0)
  case atStart => exact ⟨rfl, rfl⟩
  case round =>
    obtain ⟨rfl, rfl⟩ := hrel
    gi_wp2
    gi_loopw [28] (fun p wr2 => p = I 0 ∧ wr2 = wr) (fun p _ => 0)
    case atStart => exact ⟨rfl, rfl⟩
    case round =>
      obtain ⟨rfl, rfl⟩ := hrel
      gi_wp2
      go_end0
      exact ⟨⟨_, rfl⟩, rfl⟩

set_option maxHeartbeats 400000 in
theorem all_new (w : World) (v : Value) (hv : v = .pointer none ∨ ∃ a, v = .pointer (some a)) : Calls Tryz.prog 40 #[v] w fun e w' => e = .returned (.func (.func 59) #[] #[.pointer (some ⟨w.heap.size, 0, none⟩)]) ∧ w' = w.alloc (.cells #[v] 64) := by
  have hmf : ∀ (fn : Fn) (first cap : Array Value) (w : World), (Instr.makeFunc fn first cap).run Tryz.prog w = .ok (.func fn first cap) w := fun _ _ _ _ => rfl
  rcases hv with rfl | ⟨a, rfl⟩
  all_goals
    go_enter Tryz.func40, Tryz.ntmps40
    go_wp2_with fail
    go_ret
    exact ⟨rfl, rfl⟩

theorem allz_stops (F : Fence) (n : Nat) (hF : F.fn 59) (hro : F.round = none) (bx ar : Nat) (w : World) (hcx : w.cell? ⟨bx, 0, none⟩ = some (.pointer (some ⟨ar, 0, none⟩))) (h10 : w.cell? ⟨ar, 10, none⟩ = some (.slice none 0 0)) (h11 : w.cell? ⟨ar, 11, none⟩ = some (.slice none 0 0)) :
    SeqStopsK F n Tryz.prog 59 #[.pointer (some ⟨bx, 0, none⟩)] (fun x : Empty => nomatch x) (fun _ _ => True) (fun xs => xs = []) (fun _ => False) 0 w := fun l J Jx W hW _ _ _ h0 => by
  refine (all1z_in F n hF hro l bx ar W ((hW.cell (p := ⟨bx, 0, none⟩) (World.block_lt_of_cell? _ _ hcx)).trans hcx) ((hW.cell (p := ⟨ar, 10, none⟩) (World.block_lt_of_cell? _ _ h10)).trans h10) ((hW.cell (p := ⟨ar, 11, none⟩) (World.block_lt_of_cell? _ _ h11)).trans h11)).mono ?_
  rintro e W3 ⟨hv, rfl⟩
  exact ⟨hv, .inl ⟨[], rfl, h0⟩⟩

set_option maxHeartbeats 4000000 in
theorem rep1_bad (w : World) (db xb ar cb kb : Nat) (l : ArrL) (A : Arr) (D L G : Nat) (cv : Value) (β : Nat → Nat) (h : Hd) (ov lv bv : Value) (H : ArcAt w ar cb kb l A D L G cv β h ov lv bv) (d : Int)
    (hd : w.cell? ⟨db, 0, none⟩ = some (I d)) (hx : w.cell? ⟨xb, 0, none⟩ = some (.pointer (some ⟨ar, 0, none⟩))) (hbad : d < 0) :
    Calls Tryz.prog 37 #[.pointer (some ⟨db, 0, none⟩), .pointer (some ⟨xb, 0, none⟩)] w fun e w' => e = .returned (errV (some 11)) ∧ Below w.heap.size w w' := by
  have HH := Lib.hid H
  have b0 : decide (d < 0) = true := decide_eq_true hbad
  have hb1 : Below w.heap.size w (w.alloc (.cells #[.nilIface] 29)) := (Below.refl _ w).alloc (Nat.le_refl _) _
  have HR1 := Lib.hid (Row.lit w #[.nilIface] 29)
  have HB1 := Lib.hid hb1
  have HD := Lib.hid hd
  have HX := Lib.hid hx
  have hdl : db < w.heap.size := World.block_lt_of_cell? _ _ hd
  have hxl : xb < w.heap.size := World.block_lt_of_cell? _ _ hx
  clear H hd hx hbad hb1
  refine (callsIn_wide (n := 3)).1 (callsIn_of_wp_marks Tryz.func37 rfl trivial ?_ rfl)
  simp only [Tryz.ntmps37, List.size_toArray, List.length_cons, List.length_nil, Nat.reduceAdd, Nat.reduceSub, Array.replicate_succ, Array.replicate_zero, List.push_toArray, List.append_toArray, List.nil_append, List.cons_append]
  refine wpIn_wide.2 ?_
  go_upto_region 1 with fail
  generalize w.alloc (.cells #[.nilIface] 29) = w1 at *
  have y0 : w1.cell? ⟨db, 0, none⟩ = some (I d) := (HB1.out.cell (p := ⟨db, 0, none⟩) hdl).trans HD.out
  refine wp_region_quiet_lit mixed0 (by kernel_rfl) ?_
  repeat (go_big_quiet_step (fail))
  refine wpQuiet_nil ?_
  rintro _ ⟨nq, rfl⟩
  have r0 : (w1.drewN nq).cell? ⟨w.heap.size, 0, none⟩ = some .nilIface := HR1.out.cell 0 (by simp)
  have f0 : (w1.drewN nq).frozen? ⟨w.heap.size, 0, none⟩ = false := HR1.out.free 0 (by simp)
  have HBn := Lib.hid (below_drewN HB1.out nq)
  generalize w1.drewN nq = w2 at *
  go_wp2_with fail
  have c2 := cell_set_same r0 (.iface 34 (I 11))
  show LeavesInM _ _ _ _ _ _ [] _ _
  exact ⟨errV (some 11), by simp [results, Tryz.results37, go_sem, c2, errV], rfl, HBn.out.setCell (Nat.le_refl _) _⟩

set_option maxHeartbeats 4000000 in
theorem rep1_any (w : World) (db xb ar cb kb : Nat) (l : ArrL) (A : Arr) (D L G : Nat) (cv : Value) (β : Nat → Nat) (h : Hd) (bv : Value) (H : ArcAt w ar cb kb l A D L G cv β h (.slice none 0 0) (.slice none 0 0) bv) (hok : h.ok) (d : Nat)
    (hd : w.cell? ⟨db, 0, none⟩ = some (I d)) (hx : w.cell? ⟨xb, 0, none⟩ = some (.pointer (some ⟨ar, 0, none⟩))) (hxo : ¬ l.own A.n xb) :
    Calls Tryz.prog 37 #[.pointer (some ⟨db, 0, none⟩), .pointer (some ⟨xb, 0, none⟩)] w (RepIs w ar cb kb l A D L G cv β h bv (repTo A h (D + L + G) d)) := by
  have HH := Lib.hid H
  have HN := Lib.hid H.n
  have h7 := H.right.sum
  have b0 : decide ((d : Int) < 0) = false := decide_eq_false (by omega)
  obtain ⟨g, hg⟩ : ∃ g, decide ((D : Int) + L + G ≤ (d : Int)) = g := ⟨_, rfl⟩
  have hb1 : Below w.heap.size w (w.alloc (.cells #[.nilIface] 29)) := (Below.refl _ w).alloc (Nat.le_refl _) _
  have HR1 := Lib.hid (Row.lit w #[.nilIface] 29)
  have HB1 := Lib.hid hb1
  have HD := Lib.hid hd
  have HX := Lib.hid hx
  have hdl : db < w.heap.size := World.block_lt_of_cell? _ _ hd
  have hxl : xb < w.heap.size := World.block_lt_of_cell? _ _ hx
  have HOk := Lib.hid hok
  clear H hd hx hb1 hok
  refine (callsIn_wide (n := 3)).1 (callsIn_of_wp_marks Tryz.func37 rfl trivial ?_ rfl)
  simp only [Tryz.ntmps37, List.size_toArray, List.length_cons, List.length_nil, Nat.reduceAdd, Nat.reduceSub, Array.replicate_succ, Array.replicate_zero, List.push_toArray, List.append_toArray, List.nil_append, List.cons_append]
  refine wpIn_wide.2 ?_
  go_upto_region 1 with fail
  generalize w.alloc (.cells #[.nilIface] 29) = w1 at *
  obtain ⟨ι1, hι1, wA, hwA, HWA⟩ := later_worlds w1
  have HBA := Lib.hid hwA
  have HK1 := Lib.hid (fun n => (HH.out.later HB1.out).later (hwA n))
  have y0 : ∀ n, (wA n).cell? ⟨db, 0, none⟩ = some (I d) := fun n => ((HB1.out.trans ((hwA n).mono HB1.out.size)).cell (p := ⟨db, 0, none⟩) hdl).trans HD.out
  have y1 : ∀ n, (wA n).cell? ⟨xb, 0, none⟩ = some (.pointer (some ⟨ar, 0, none⟩)) := fun n => ((HB1.out.trans ((hwA n).mono HB1.out.size)).cell (p := ⟨xb, 0, none⟩) hxl).trans HX.out
  have y2 : ∀ n, (wA n).cell? ⟨ar, 1, none⟩ = some (.pointer (some ⟨cb, 0, none⟩)) := fun n => (HK1.out n).c1
  have z0 : ∀ n, (wA n).cell? ⟨cb, 0, none⟩ = some (I D) := fun n => (HK1.out n).p0
  have z1 : ∀ n, (wA n).cell? ⟨cb, 1, none⟩ = some (I L) := fun n => (HK1.out n).p1
  have z2 : ∀ n, (wA n).cell? ⟨cb, 2, none⟩ = some (I G) := fun n => (HK1.out n).p2
  have HSh := Lib.hid (fun V => show Calls Tryz.prog 15 #[PV D L G] V fun e w' => e = .returned (I ((D + L + G : Nat) : Int)) ∧ Below V.heap.size V w' from by
    have := shards_any D L G (by omega) V; rwa [show (D : Int) + L + G = ((D + L + G : Nat) : Int) by omega] at this)
  have HNx := Lib.hid (fun n V (hb : Below (wA n).heap.size (wA n) V) => HWA.out V ((hwA n).trans (hb.mono (hwA n).size)))
  clear hwA
  refine wp_region_I (fun _ V => ∃ n, V = wA n) mixed0 (by kernel_rfl) (HWA.out _ (below_drew' w1)) ?_
  refine wpI_reads (C := fun V => ∃ n, V = wA n) 12 (by decide) rfl (fun L V h => h) (fun j _ _ L V h => h) ?_
  simp only [List.drop_zero, List.take_succ_cons, List.take_zero]
  repeat (go_big_quiet_step (fail))
  refine wpQuiet_nil ?_
  simp only [Nat.zero_add]
  refine wpI_effG rfl rfl (I ((D + L + G : Nat) : Int)) ?_ ?_
  · intro L' V hL _ hS
    obtain ⟨n, rfl⟩ := hS
    go_wp2_with fail
    refine (HSh.out _).mono ?_
    rintro e w3 ⟨rfl, hb⟩
    go_wp2_with fail
    exact ⟨rfl, HNx.out n _ hb⟩
  simp only [Act.put, List.setIfInBounds_toArray, List.set_cons_succ, List.set_cons_zero]
  refine wpI_reads (C := fun V => ∃ n, V = wA n) 2 (by decide) rfl (fun L V h => h) (fun j _ _ L V h => h) ?_
  simp only [List.drop_succ_cons, List.drop_zero, List.take_succ_cons, List.take_zero]
  repeat (go_big_quiet_step (fail))
  refine wpQuiet_nil ?_
  refine wpI_end (by decide) ?_
  intro L' w3 _ hS
  have HB3 : Hid (Below w1.heap.size w1 w3) := by obtain ⟨n, rfl⟩ := hS; exact Lib.hid (HBA.out n)
  clear hS HBA HSh y0 y1 y2 z0 z1 z2 HNx HWA HK1
  have HW3 := Lib.hid (HB1.out.trans (HB3.out.mono HB1.out.size))
  have HR3 := Lib.hid (HR1.out.later HB3.out)
  have HA3 := Lib.hid ((HH.out.later HB1.out).later HB3.out)
  have HD3 := Lib.hid ((HW3.out.cell (p := ⟨db, 0, none⟩) hdl).trans HD.out)
  have HX3 := Lib.hid ((HW3.out.cell (p := ⟨xb, 0, none⟩) hxl).trans HX.out)
  clear HB3 HB1 HR1 HD HX
  cases g with
  | true =>
    have r0 : w3.cell? ⟨w.heap.size, 0, none⟩ = some .nilIface := HR3.out.cell 0 (by simp)
    have f0 : w3.frozen? ⟨w.heap.size, 0, none⟩ = false := HR3.out.free 0 (by simp)
    have e1 : repTo A h (D + L + G) d = (some 11, A) := by unfold repTo; rw [if_pos (by have := of_decide_eq_true hg; omega)]
    go_wp2_with fail
    have c2 := cell_set_same r0 (.iface 34 (I 11))
    have hu : Upd (· = w.heap.size) w3 (w3.setCell ⟨w.heap.size, 0, none⟩ (.iface 34 (I 11))) := (Upd.refl _ w3).at1 0 _
    have hb : Below w.heap.size w (w3.setCell ⟨w.heap.size, 0, none⟩ (.iface 34 (I 11))) := HW3.out.setCell (Nat.le_refl _) _
    show LeavesInM _ _ _ _ _ _ [] _ _
    refine ⟨errV (some 11), by simp [results, Tryz.results37, go_sem, c2, errV], ?_⟩
    rw [e1]
    exact ⟨rfl, HH.out.later hb, (Upd.of_below hb).mono fun _ _ h => h.elim⟩
  | false =>
    have hlt : d < D + L + G := by have := of_decide_eq_false hg; omega
    have HRT := Lib.hid (show repTo A h (D + L + G) d = (if (A.wr d 0 (Frm.blk (cFrm h d))).1.isSome then some 11 else none, (A.wr d 0 (Frm.blk (cFrm h d))).2) by unfold repTo; rw [if_neg (by omega)])
    clear hg
    go_upto_region 3 with fail
    have HDa := Lib.hid (hdata_any h HOk.out.D HOk.out.L HOk.out.G HOk.out.size HOk.out.fb HOk.out.fs)
    obtain ⟨we, hwe⟩ : ∃ V, V = w3.drew := ⟨_, rfl⟩
    have HZ := Lib.hid (show ArcAt we ar cb kb l A D L G cv β h (.slice none 0 0) (.slice none 0 0) bv from by rw [hwe]; exact HA3.out.later (below_drew' w3))
    have HRe := Lib.hid (show Row we w.heap.size 0 _ _ from hwe ▸ HR3.out.drew)
    have HWe := Lib.hid (show Below w.heap.size w we from by rw [hwe]; exact (HW3.out.trans ((below_drew' w3).mono HW3.out.size)))
    have HDe := Lib.hid (show we.cell? ⟨db, 0, none⟩ = some (I d) from hwe ▸ HD3.out)
    have HXe := Lib.hid (show we.cell? ⟨xb, 0, none⟩ = some (.pointer (some ⟨ar, 0, none⟩)) from hwe ▸ HX3.out)
    have hdl2 : db < we.heap.size := by have := HWe.out.size; omega
    have hxl2 : xb < we.heap.size := by have := HWe.out.size; omega
    obtain ⟨ι, hne, wB, hBB, HWB⟩ := later_worlds we
    have HLd := Lib.hid (fun n => (HZ.out.later (hBB n)).hdRow.rd)
    have y3 : ∀ n, (wB n).cell? ⟨ar, 3, none⟩ = some (U64 h.seq) := fun n => HLd.out n 0 (by omega)
    have y0 : ∀ n, (wB n).cell? ⟨db, 0, none⟩ = some (I d) := fun n => ((hBB n).cell (p := ⟨db, 0, none⟩) hdl2).trans HDe.out
    have y1 : ∀ n, (wB n).cell? ⟨xb, 0, none⟩ = some (.pointer (some ⟨ar, 0, none⟩)) := fun n => ((hBB n).cell (p := ⟨xb, 0, none⟩) hxl2).trans HXe.out
    refine wp_noPanic (wp_region_held_script [([0, 1, 2, 3, 4, 5, 6, 7, 8, 9, 10, 11, 12, 13], [14]), ([15], [])] 16 (fun V => ∃ n, V = wB n) mixed0 (by kernel_rfl) (by kernel_rfl) noPanic_put (HWB.out _ (by rw [← hwe]; exact Below.refl _ _)) ?_)
    rw [← hwe]
    clear hwe hBB HR3 HW3 HD3 HX3 HA3
    simp only [scriptW]
    simp only [pick, List.filterMap_cons, List.filterMap_nil, List.getElem?_toArray, List.getElem?_cons_succ, List.getElem?_cons_zero]
    change wpQuiet _ _ _ _ (_ :: _ :: _ :: _ :: _ :: _ :: _ :: _ :: _ :: _ :: _ :: _ :: _ :: _ :: []) _
    repeat (first | (refine wpQuiet_load_rdG (f := hc h) rfl 95 (.tmp 34) rfl rfl ?_ Tryz.underlying95 rfl a95 ?_; (rintro _ ⟨n, rfl⟩; exact HLd.out n); simp only [Act.put, List.setIfInBounds_toArray, List.set_cons_succ, List.set_cons_zero]) | go_big_quiet_step (fail))
    refine wpQuiet_nil ?_
    simp only [chainM, scriptW]
    refine wpOp_list (i := 14) rfl rfl ?_
    go_wp2_with fail
    refine (HDa.out _).mono ?_
    rintro e w6 ⟨rfl, hb6⟩
    go_wp2_with fail
    refine ⟨HWB.out _ hb6, ?_⟩
    have HZ6 := Lib.hid (HZ.out.later hb6)
    have HR6 := Lib.hid (HRe.out.later hb6)
    have HW6 := Lib.hid (HWe.out.trans (hb6.mono HWe.out.size))
    have HX6 := Lib.hid ((hb6.cell (p := ⟨xb, 0, none⟩) hxl2).trans HXe.out)
    clear hb6 HZ y3 y0 y1 HWB HLd HRe HWe HXe HDe
    change wpQuiet _ _ _ _ (_ :: []) _
    refine wpQuiet_build rfl 130 [(0, .const (.int .u8 2)), (1, .tmp 26), (2, .tmp 31), (3, .tmp 36)] rfl _ rfl _ (build_frame4 2 d h.seq h.bytes) ?_
    simp only [Act.put, List.setIfInBounds_toArray, List.set_cons_succ, List.set_cons_zero]
    refine wpQuiet_nil ?_
    simp only [List.drop_succ_cons, List.drop_zero]
    have HDW := Lib.hid (dwrite_any w6 l A ar d 0 (cFrm h d) (by show d < 256; omega) HOk.out.seq HZ6.out.arr HZ6.out.wait HZ6.out.c0 HZ6.out.notOwn)
    go_upto_region 4 with (go_at_call 38; refine HDW.out.mono ?_; rintro e w7 ⟨v7, rfl, hv7, hA7, hu7⟩)
    refine noPanic_normal ?_
    have hn2 : (A.wr d 0 (Frm.blk (cFrm h d))).2.n = A.n ∧ (A.wr d 0 (Frm.blk (cFrm h d))).2.wait = A.wait := wrF_n A d 0 (cFrm h d)
    have HA7 := Lib.hid (HZ6.out.turned hu7 (fun b hb => .inr (.inr ⟨d, hb.1, hb.2⟩)) hA7 hn2.1 hn2.2)
    have hown7 : ∀ b, (d < A.n ∧ (b = l.bk d ∨ b = l.bd d)) → l.own A.n b := fun b hb => .inr (.inr ⟨d, hb.1, hb.2⟩)
    have hlo : ∀ b, l.own A.n b → b < w.heap.size := HH.out.arr.own_lt
    have HR7 := Lib.hid (HR6.out.upd hu7 (fun _ hb => by have := hlo _ (hown7 _ hb); omega))
    have HU7 := Lib.hid (((Upd.of_below HW6.out).mono (H := l.own A.n) fun _ _ h => h.elim).trans (hu7.mono fun b _ hb => hown7 b hb) (fun _ h _ => h))
    have hz7 : w.heap.size < w7.heap.size := by have := hu7.size; have := HR6.out.lt (by simp); omega
    have HX7 := Lib.hid (show w7.cell? ⟨xb, 0, none⟩ = some (.pointer (some ⟨ar, 0, none⟩)) from (World.cell?_of_block (a := ⟨xb, 0, none⟩) (hu7.block xb (World.block_lt_of_cell? _ _ HX6.out) (fun hb => hxo (hown7 _ hb)))).trans HX6.out)
    clear hu7 hA7 hn2 HZ6 HR6 HW6 HX6 HDW
    have HVe := Lib.hid (show Below w.heap.size w w from Below.refl _ _)
    have r0 : w7.cell? ⟨w.heap.size, 0, none⟩ = some .nilIface := HR7.out.cell 0 (by simp)
    have f0 : w7.frozen? ⟨w.heap.size, 0, none⟩ = false := HR7.out.free 0 (by simp)
    have hset : ∀ (V : World) (v : Value), Upd (l.own A.n) w V → Upd (l.own A.n) w (V.setCell ⟨w.heap.size, 0, none⟩ v) := fun V v hu => hu.trans ((Upd.refl (· = w.heap.size) V).at1 0 v) (fun b h hlt => by omega)
    have HSet := Lib.hid hset
    have har : ar < w.heap.size := HH.out.kd.lt
    have HKS := Lib.hid (fun (V : World) (v : Value) (X : Arr) (hX : ArcAt V ar cb kb l X D L G cv β h (.slice none 0 0) (.slice none 0 0) bv) (ho : ∀ b, l.own X.n b → b < w.heap.size) (hc : ∀ b, cdOwn cb (D + L + G) cv β b → b < w.heap.size) => (hX.kept ((Upd.refl (· = w.heap.size) V).at1 0 v) (by omega) (fun b hb e => by have := ho b hb; omega) (fun b hb e => by have := hc b hb; omega) : ArcAt (V.setCell ⟨w.heap.size, 0, none⟩ v) ar cb kb l X D L G cv β h (.slice none 0 0) (.slice none 0 0) bv))
    have HCd := Lib.hid HH.out.cd.own_lt
    have HOwn2 := Lib.hid (show ∀ b, l.own (A.wr d 0 (Frm.blk (cFrm h d))).2.n b → b < w.heap.size from fun b hb => hlo b (by rwa [show (A.wr d 0 (Frm.blk (cFrm h d))).2.n = A.n from (wrF_n A d 0 (cFrm h d)).1] at hb))
    clear hset hown7 hlo
    generalize A.wr d 0 (Frm.blk (cFrm h d)) = r at *
    obtain ⟨r1, r2⟩ := r
    cases r1 with
    | some k =>
      obtain ⟨eb, d', b', rfl, _, _⟩ := hv7
      go_wp2_with fail
      have c2 := cell_set_same r0 (.iface 34 (I 11))
      show LeavesInM _ _ _ _ _ _ [] _ _
      refine ⟨errV (some 11), by simp [results, Tryz.results37, go_sem, c2, errV], ?_⟩
      rw [HRT.out]
      exact ⟨rfl, HKS.out _ _ _ HA7.out HOwn2.out HCd.out, HSet.out _ _ HU7.out⟩
    | none =>
      obtain rfl : v7 = .nilIface := hv7
      have x0 := HX7.out
      go_upto_region 6 with fail
      go_wp2_with (go_at_call 40; refine (all_new w7 _ (.inr ⟨_, rfl⟩)).mono ?_; rintro e w8 ⟨rfl, hw8⟩)
      rw [← hw8]
      have hb8 : Below w7.heap.size w7 w8 := hw8 ▸ (Below.refl _ w7).alloc (Nat.le_refl _) _
      have hbx : w8.cell? ⟨w7.heap.size, 0, none⟩ = some (.pointer (some ⟨ar, 0, none⟩)) := by rw [hw8]; simp
      clear hw8
      have HA8 := Lib.hid (HA7.out.later hb8)
      have HR8 := Lib.hid (HR7.out.later hb8)
      have HU8 := Lib.hid (HU7.out.trans (Upd.of_below hb8) (fun _ h _ => h.elim) : Upd (l.own A.n) w w8)
      have h10 : w8.cell? ⟨ar, 10, none⟩ = some (.slice none 0 0) := HA8.out.top.cell 10 (by omega)
      have h11 : w8.cell? ⟨ar, 11, none⟩ = some (.slice none 0 0) := HA8.out.top.cell 11 (by omega)
      clear hb8 x0 r0 f0
      refine (wpIn_wide (n := 3)).1 ?_
      refine wpIn_rangeFunc_ownG rfl (by omega) (gf := 59) (lb := #[.pointer (some ⟨w7.heap.size, 0, none⟩)]) rfl trivial (enters_of Tryz.func59 (by kernel_rfl) rfl)
        (allz_stops Fence.wide 2 trivial rfl w7.heap.size ar w8 hbx h10 h11) (fun _ _ => trivial) (fun _ _ _ _ _ _ _ _ => trivial) (Below.refl _ _) (fun x => nomatch x)
        (fun _ W => Below w8.heap.size w8 W) (fun _ _ _ => False) (ownFrom_below (Nat.le_refl _) (Nat.le_refl _)) (fun _ _ _ _ _ hs _ _ => hs) (Below.refl _ _) (fun x => nomatch x) ?assign ?body ?done ?stop
      case assign => intro l x; exact nomatch x
      case body => intro l pre x; exact nomatch x
      case stop =>
        rintro Dd c pre W _ _ h _
        exact h.elim
      case done =>
        rintro Dd xs W hD _ hB hK
        have HK := Lib.hid hK
        have r0 : W.cell? ⟨w.heap.size, 0, none⟩ = some .nilIface := (HR8.out.later hB).cell 0 (by simp)
        have f0 : W.frozen? ⟨w.heap.size, 0, none⟩ = false := (HR8.out.later hB).free 0 (by simp)
        have HAW := Lib.hid (HA8.out.later hB)
        have HUW := Lib.hid (HU8.out.trans (Upd.of_below hB) (fun _ h _ => h.elim) : Upd (l.own A.n) w W)
        clear hB hK
        gi_wp2
        go_wp2_with fail
        show LeavesInM _ _ _ _ _ _ (marksOf [Dd]) _ _
        have hs := HR8.out.lt (by simp)
        have hu := HSet.out W .nilIface HUW.out
        have hA := HKS.out W .nilIface _ HAW.out HOwn2.out HCd.out
        have c9 := cell_set_same r0 .nilIface
        have hKd : (W.setCell ⟨w.heap.size, 0, none⟩ .nilIface).heap[Dd]? = some (.deferred (some [])) := by
          rw [((Upd.refl (· = w.heap.size) W).at1 0 .nilIface).block Dd (Array.getElem?_eq_some_iff.1 HK.out).1 (by omega)]; exact HK.out
        have hzw := HU8.out.size
        generalize W.setCell ⟨w.heap.size, 0, none⟩ .nilIface = W2 at *
        refine leaves_marks [Dd] _ (by simp) (fun d hd => ?_) (fun w' e1 e2 e3 e4 e5 => ?_)
        · obtain rfl := List.mem_singleton.1 hd
          exact hKd
        · have hnot : ∀ b, b ≠ Dd → b ∉ [Dd] := fun b h1 h => h1 (List.mem_singleton.1 h)
          have hu2 : Upd (· = Dd) W2 w' := ⟨e2, e3, e4, by rw [e1]; exact Nat.le_refl _, fun b _ hb => e5 b (hnot _ hb)⟩
          have d0 : w'.cell? ⟨w.heap.size, 0, none⟩ = some .nilIface := (World.cell?_of_block (a := ⟨w.heap.size, 0, none⟩) (e5 w.heap.size (hnot _ (by omega)))).trans c9
          refine ⟨errV none, by simp [results, Tryz.results37, go_sem, d0, errV], ?_⟩
          rw [HRT.out]
          exact ⟨rfl, hA.kept hu2 (by omega) (fun b hb e => by have := HOwn2.out b hb; omega) (fun b hb e => by have := HCd.out b hb; omega), hu.trans hu2 (fun b e hlt => by omega)⟩
end Go.Proofs.YtgelingkifafeaaGreatDoor
