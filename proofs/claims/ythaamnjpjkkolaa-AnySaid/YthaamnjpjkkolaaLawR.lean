import Derived.Test.YthaamnjpjkkolaaRefRankW
/- The law Ranks: its walk. -/
namespace Go.Proofs.Ythaamnjpjkkolaa
open Go.RowKit Go.Proofs Lin
set_option maxRecDepth 100000
set_option linter.unusedVariables false

theorem wid_congr {S T : Nat → Sl} : ∀ {n : Nat}, (∀ i, i < n → (S i).n = (T i).n) → wid S n = wid T n
  | 0, _ => rfl
  | n + 1, h => by simp only [wid]; rw [wid_congr fun i hi => h i (by omega), h n (by omega)]

theorem rk_congr {n w : Nat} {M N : Mat} (h : ∀ i, i < n → M i = N i) : rk (Lin.Rows n M) w = rk (Lin.Rows n N) w :=
  rk_eq (fun _ ⟨i, h0, hi, e⟩ => .row ⟨i, h0, hi, e.trans (h i hi)⟩) (fun _ ⟨i, h0, hi, e⟩ => .row ⟨i, h0, hi, e.trans (h i hi).symm⟩) w

theorem rankV_congr {S T : Nat → Sl} {n : Nat} (h : ∀ i, i < n → (S i).n = (T i).n) (hx : ∀ i, i < n → padX (S i) = padX (T i)) : rankV n S = rankV n T := by
  unfold rankV
  rw [wid_congr h, reduce_rank, reduce_rank, rk_congr hx]

/-- The row that roomy made of a row. -/
def roomS (S : Nat → Sl) (β : Nat → Nat) : Nat → Sl := fun j => ⟨some ⟨β j, 0, none⟩, β j, 0, (S j).n, (S j).n + 2, roomX (S j).n (S j).x⟩
theorem roomS_ok {w : World} {B n : Nat} {S : Nat → Sl} {β : Nat → Nat} (h : Rooms w B n S β) (hs : ∀ i, i < n → (S i).n ≤ 100000) : ∀ i, i < n → (roomS S β i).ok w := fun i hi =>
  ⟨fun _ => rfl, (h.row i hi).rd.take (by show (S i).n ≤ (S i).n + 2; omega), by show (S i).n ≤ (S i).n + 2; omega, by show (S i).n + 2 ≤ _; have := hs i hi; omega⟩
theorem roomS_pad (S : Nat → Sl) (β : Nat → Nat) (i : Nat) : padX (roomS S β i) = padX (S i) := by
  funext j; unfold padX roomS roomX; by_cases h : j < (S i).n <;> simp [h]

theorem Rooms.later {w w' : World} {B k : Nat} {S : Nat → Sl} {β : Nat → Nat} (h : Rooms w B k S β) (hb : Below w.heap.size w w') : Rooms w' B k S β :=
  ⟨fun j hj => (h.row j hj).later hb, fun j hj => (h.kd j hj).later hb, h.own, h.up⟩
theorem Sl.ok.upd {s : Sl} {w w' : World} {G : Nat → Prop} (h : s.ok w) (hu : Upd G w w') (hg : 0 < s.n → ¬ G s.b) : s.ok w' := ⟨h.addr, h.rd.upd hu hg, h.cap, h.max⟩

/-- A list of rows that came in. -/
structure Rws (w : World) (a : Option Addr) (b o n c : Nat) (S : Nat → Sl) : Prop where
  addr : 0 < n → a = some ⟨b, o, none⟩
  out : Rd w b o n (fun i => (S i).v)
  ok : ∀ i, i < n → (S i).ok w
  cap : n ≤ c
  max : c ≤ 140737488355328
theorem Rws.later {w w' : World} {a : Option Addr} {b o n c : Nat} {S : Nat → Sl} (h : Rws w a b o n c S) (hb : Below w.heap.size w w') : Rws w' a b o n c S :=
  ⟨h.addr, h.out.later hb, fun i hi => (h.ok i hi).later hb, h.cap, h.max⟩
theorem Rws.upd {w w' : World} {G : Nat → Prop} {a : Option Addr} {b o n c : Nat} {S : Nat → Sl} (h : Rws w a b o n c S) (hu : Upd G w w') (hb : 0 < n → ¬ G b) (hs : ∀ i, i < n → 0 < (S i).n → ¬ G (S i).b) : Rws w' a b o n c S :=
  ⟨h.addr, h.out.upd hu hb, fun i hi => (h.ok i hi).upd hu (hs i hi), h.cap, h.max⟩

def LawTrue (w : World) (e : Ending) (w' : World) : Prop := e = .returned (.bool true) ∧ Below w.heap.size w w'

set_option maxHeartbeats 400000 in
theorem ranks_walk (a : Option Addr) (b o n c : Nat) (S : Nat → Sl) (w : World) (h : Rws w a b o n c S) :
    Calls Try.prog 6 #[.slice a n c] w (LawTrue w) := by
  have HS := Lib.hid h
  have hmax := h.max
  have hcap := h.cap
  have hwt := Lib.hid (weight_any a b o n c S w h.addr h.out (fun i hi => Nat.le_trans (h.ok i hi).cap (h.ok i hi).max) (by unfold maxLen; omega))
  clear h
  go_enter Try.func6, Try.ntmps6
  go_wp2_with fail
  refine hwt.out.mono ?_
  rintro e w1 ⟨r, rfl, rfl, hr0, hr⟩
  by_cases hbig : 100000 < r
  · clear hr
    go_wp2_with fail
    go_ret
    exact ⟨rfl, Below.refl _ _⟩
  · have hsum : n + wt S n ≤ 100000 := hr (by omega)
    have hs := Lib.hid (fun i (hi : i < n) => (show (S i).n ≤ 100000 by have := wt_le S hi; omega))
    clear hr
    go_wp2_with fail
    refine (roomies_any a b o n c S _ HS.out.addr HS.out.out HS.out.ok hs.out (by omega)).mono ?_
    rintro e w1 ⟨v, β, rfl, hb1, hv1, hr1⟩
    have HB1 := Lib.hid hb1
    have HV1 := Lib.hid hv1
    have HR1 := Lib.hid hr1
    clear hb1 hv1 hr1
    obtain ⟨va, vb, vc, rfl, hva, hvr, hvc, _, _⟩ := HV1.out.shape
    have hrank := Lib.hid (sRank_any va vb 0 n vc (roomS S β) w1 hva hvr.rd (roomS_ok HR1.out hs.out) (by omega))
    have hreq := Lib.hid (rankV_congr (S := roomS S β) (T := S) (n := n) (fun _ _ => rfl) (fun i _ => roomS_pad S β i))
    clear hva hvr
    go_wp2_with fail
    refine hrank.out.mono ?_
    rintro e w2 ⟨rfl, hb2⟩
    rw [hreq.out]
    have HB2 := Lib.hid hb2
    clear hb2
    have hw12 := Lib.hid (HB1.out.trans (HB2.out.mono HB1.out.size))
    have h2 := Lib.hid (HS.out.later hw12.out)
    have hstill := Lib.hid (allStill_any (.slice va n vc) a b o n c w.heap.size S β w2 h2.out.addr h2.out.out h2.out.ok hs.out (by omega) (fun h0 => HS.out.out.lt h0) (fun i hi h0 => (HS.out.ok i hi).rd.lt h0) (HV1.out.later HB2.out) (HR1.out.later HB2.out))
    go_wp2_with fail
    refine hstill.out.mono ?_
    rintro e w3 ⟨rfl, hu3⟩
    have HU3 := Lib.hid hu3
    clear hu3
    have h3 := Lib.hid (h2.out.upd HU3.out (fun h0 hg => by have := HS.out.out.lt h0; omega) (fun i hi h0 hg => by have := (HS.out.ok i hi).rd.lt h0; omega))
    have hw13 := Lib.hid (Below.upd hw12.out HU3.out (fun _ h => h) hw12.out.size)
    have hrr := Lib.hid (refRank_any a b o n c S w3 h3.out.addr h3.out.out h3.out.ok (by omega))
    go_wp2_with fail
    refine hrr.out.mono ?_
    rintro e w4 ⟨rfl, hb4⟩
    have HB4 := Lib.hid hb4
    clear hb4
    go_wp2_with fail
    go_ret
    exact ⟨rfl, hw13.out.trans (HB4.out.mono hw13.out.size)⟩
end Go.Proofs.Ythaamnjpjkkolaa
