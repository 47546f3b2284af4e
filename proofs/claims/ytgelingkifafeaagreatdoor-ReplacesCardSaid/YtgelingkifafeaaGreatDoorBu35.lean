import Derived.Test.YtgelingkifafeaaGreatDoorBu34
import Derived.Test.YtgelingkifafeaaGreatDoorBu31
/- Replace of an archive without objects: its calls. -/
namespace Go.Proofs.YtgelingkifafeaaGreatDoor
open Go Go.RowKit Go.Proofs Lin
set_option maxRecDepth 100000
set_option linter.unusedVariables false

def repI (A : Arr) (h : Hd) (N : Nat) (d : Int) : Option Nat × Arr := if d < 0 then (some 11, A) else repTo A h N d.toNat
theorem repI_n (A : Arr) (h : Hd) (N : Nat) (d : Int) : (repI A h N d).2.n = A.n ∧ (repI A h N d).2.m = A.m ∧ (repI A h N d).2.wait = A.wait ∧ (repI A h N d).1 ≠ some 13 := by
  unfold repI repTo
  split
  · exact ⟨rfl, rfl, rfl, by simp⟩
  · split
    · exact ⟨rfl, rfl, rfl, by simp⟩
    · have h1 := wrF_n A d.toNat 0 (cFrm h d.toNat)
      refine ⟨h1.1, ?_, h1.2, by dsimp only; split <;> simp⟩
      show ((A.wr _ _ _).2).m = A.m
      unfold Arr.wr; split <;> rfl

theorem rep1_all (w : World) (db xb ar cb kb : Nat) (l : ArrL) (A : Arr) (D L G : Nat) (cv : Value) (β : Nat → Nat) (h : Hd) (bv : Value) (H : ArcAt w ar cb kb l A D L G cv β h (.slice none 0 0) (.slice none 0 0) bv) (hok : h.ok) (d : Int)
    (hd : w.cell? ⟨db, 0, none⟩ = some (I d)) (hx : w.cell? ⟨xb, 0, none⟩ = some (.pointer (some ⟨ar, 0, none⟩))) (hxo : ¬ l.own A.n xb) :
    Calls Tryz.prog 37 #[.pointer (some ⟨db, 0, none⟩), .pointer (some ⟨xb, 0, none⟩)] w (RepIs w ar cb kb l A D L G cv β h bv (repI A h (D + L + G) d)) := by
  by_cases h0 : d < 0
  · refine (rep1_bad w db xb ar cb kb l A D L G cv β h _ _ bv H d hd hx h0).mono ?_
    rintro e w2 ⟨rfl, hb⟩
    unfold repI; rw [if_pos h0]
    exact ⟨rfl, H.later hb, (Upd.of_below hb).mono fun _ _ h => h.elim⟩
  · obtain ⟨k, rfl⟩ := Int.eq_ofNat_of_zero_le (Int.not_lt.1 h0)
    have := rep1_any w db xb ar cb kb l A D L G cv β h bv H hok k hd hx hxo
    unfold repI; rwa [if_neg h0]

set_option maxHeartbeats 1000000 in
theorem rep0_any (w : World) (ar cb kb : Nat) (l : ArrL) (A : Arr) (D L G : Nat) (cv : Value) (β : Nat → Nat) (h : Hd) (H : ArcAt w ar cb kb l A D L G cv β h (.slice none 0 0) (.slice none 0 0) .nilIface) (hok : h.ok) (hg : Laid w) (hge : ¬ l.own A.n 0) (d : Int) :
    Calls Tryz.prog 22 #[.pointer (some ⟨ar, 0, none⟩), I d] w (RepIs w ar cb kb l A D L G cv β h .nilIface (repI A h (D + L + G) d)) := by
  have hmf : ∀ (fn : Fn) (first cap : Array Value) (w : World), (Instr.makeFunc fn first cap).run Tryz.prog w = .ok (.func fn first cap) w := fun _ _ _ _ => rfl
  have HB := Lib.hid (show Below w.heap.size w ((w.alloc (.cells #[.pointer (some ⟨ar, 0, none⟩)] 64)).alloc (.cells #[I d] 3)) from ((Below.refl _ w).alloc (Nat.le_refl _) _).alloc (by simp) _)
  have HX := Lib.hid (show ((w.alloc (.cells #[.pointer (some ⟨ar, 0, none⟩)] 64)).alloc (.cells #[I d] 3)).cell? ⟨w.heap.size, 0, none⟩ = some (.pointer (some ⟨ar, 0, none⟩)) from cell_alloc (by simp) _)
  have HD := Lib.hid (show ((w.alloc (.cells #[.pointer (some ⟨ar, 0, none⟩)] 64)).alloc (.cells #[I d] 3)).cell? ⟨w.heap.size + 1, 0, none⟩ = some (I d) from by
    have h := (Row.lit (w.alloc (.cells #[.pointer (some ⟨ar, 0, none⟩)] 64)) #[I d] 3).cell 0 (by simp)
    rw [World.size_alloc] at h; exact h)
  have HH := Lib.hid H
  have HOk := Lib.hid hok
  have HG := Lib.hid hg
  have HGe := Lib.hid hge
  have hz : ((w.alloc (.cells #[.pointer (some ⟨ar, 0, none⟩)] 64)).alloc (.cells #[I d] 3)).heap.size = w.heap.size + 2 := by simp
  have hn := repI_n A h (D + L + G) d
  obtain ⟨r, hr⟩ : ∃ r, r = repI A h (D + L + G) d := ⟨_, rfl⟩
  have hR : ∀ V, ArcAt V ar cb kb l A D L G cv β h (.slice none 0 0) (.slice none 0 0) .nilIface → ∀ db xb, V.cell? ⟨db, 0, none⟩ = some (I d) → V.cell? ⟨xb, 0, none⟩ = some (.pointer (some ⟨ar, 0, none⟩)) → ¬ l.own A.n xb → Calls Tryz.prog 37 #[.pointer (some ⟨db, 0, none⟩), .pointer (some ⟨xb, 0, none⟩)] V (RepIs V ar cb kb l A D L G cv β h .nilIface r) :=
    fun V HV db xb h1 h2 h3 => hr ▸ rep1_all V db xb ar cb kb l A D L G cv β h .nilIface HV hok d h1 h2 h3
  rw [← hr] at hn ⊢
  have HR := Lib.hid hR
  have Hn := Lib.hid hn
  clear hR hn hr H hok hg hge
  go_enter Tryz.func22, Tryz.ntmps22
  go_upto_region 1 with fail
  generalize (w.alloc (.cells #[.pointer (some ⟨ar, 0, none⟩)] 64)).alloc (.cells #[.int .i64 d] 3) = w1 at *
  have HA1 := Lib.hid (HH.out.later HB.out)
  have hlo : ∀ b, l.own A.n b → b < w.heap.size := HH.out.arr.own_lt
  have hbr : w1.cell? ⟨ar, 12, none⟩ = some .nilIface := HA1.out.top.cell 12 (by omega)
  have HDo := Lib.hid (do_any w1 ar hbr (HG.out.later HB.out) 37 #[] #[.pointer (some ⟨w.heap.size + 1, 0, none⟩), .pointer (some ⟨w.heap.size, 0, none⟩)] #[.pointer (some ⟨w.heap.size + 1, 0, none⟩), .pointer (some ⟨w.heap.size, 0, none⟩)] rfl (fun w => by kernel_rfl)
    (l.own A.n) (fun V => ArcAt V ar cb kb l r.2 D L G cv β h (.slice none 0 0) (.slice none 0 0) .nilIface) r.1 Hn.out.2.2.2 (fun b hb => by have := hlo b hb; omega) HGe.out
    (fun V hb => (HR.out V (HA1.out.later hb) _ _ ((hb.cell (p := ⟨w.heap.size + 1, 0, none⟩) (by simp only; omega)).trans HD.out) ((hb.cell (p := ⟨w.heap.size, 0, none⟩) (by simp only; omega)).trans HX.out) (fun hx => by have := hlo _ hx; omega)).mono fun e w2 hr => ⟨hr.1, hr.2.2, hr.2.1⟩))
  have x0 := HX.out
  have x1 := HD.out
  clear hbr HR HG
  go_wp2_with (go_at_call 36; refine HDo.out.mono ?_; rintro e w2 ⟨rfl, hu, V, hV, huV⟩; have HU := Lib.hid hu; have HV := Lib.hid hV; have HUV := Lib.hid huV; clear hu hV huV)
  go_ret
  refine ⟨rfl, HV.out.kept HUV.out (by have := HH.out.kd.lt; omega) (fun b hb e => by rw [Hn.out.1] at hb; have := hlo b hb; omega) (fun b hb e => by have := HH.out.cd.own_lt b hb; omega), (Upd.of_below HB.out).mono (fun _ _ h => h.elim) |>.trans HU.out (fun _ h _ => h)⟩

set_option maxHeartbeats 400000 in
theorem sRep0_any (w : World) (sb ar cb kb : Nat) (l : ArrL) (A : Arr) (D L G : Nat) (cv : Value) (β : Nat → Nat) (h : Hd) (H : ArcAt w ar cb kb l A D L G cv β h (.slice none 0 0) (.slice none 0 0) .nilIface) (hs : w.cell? ⟨sb, 0, none⟩ = some (.pointer (some ⟨ar, 0, none⟩))) (hok : h.ok) (hg : Laid w) (hge : ¬ l.own A.n 0) (d : Int) :
    Calls Tryz.prog 14 #[.pointer (some ⟨sb, 0, none⟩), I d] w (RepIs w ar cb kb l A D L G cv β h .nilIface (repI A h (D + L + G) d)) := by
  have HL := Lib.hid (rep0_any w ar cb kb l A D L G cv β h H hok hg hge d)
  clear H hok hg hge
  go_enter Tryz.func14, Tryz.ntmps14
  go_wp2_with (go_at_call 22; refine HL.out.mono ?_; rintro e w2 ⟨rfl, hA, hu⟩; have HA := Lib.hid hA; have HU := Lib.hid hu; clear hA hu)
  go_ret
  exact ⟨rfl, HA.out, HU.out⟩
end Go.Proofs.YtgelingkifafeaaGreatDoor
