import Derived.Test.YthaamnjpjkkolabDoorRowsW
/- A list of rows that came in; what a law leaves. -/
namespace Go.Proofs.YthaamnjpjkkolabDoor
open Go.RowKit Go.Proofs
set_option maxRecDepth 100000
set_option linter.unusedVariables false

theorem Rooms.later {w w' : World} {B k : Nat} {S : Nat → Sl} {β : Nat → Nat} (h : Rooms w B k S β) (hb : Below w.heap.size w w') : Rooms w' B k S β :=
  ⟨fun j hj => (h.row j hj).later hb, fun j hj => (h.kd j hj).later hb, h.own, h.up⟩
theorem Sl.ok.upd {s : Sl} {w w' : World} {G : Nat → Prop} (h : s.ok w) (hu : Upd G w w') (hg : 0 < s.n → ¬ G s.b) : s.ok w' := ⟨h.addr, h.rd.upd hu hg, h.cap, h.max⟩

/-- A list of rows that came in. -/
structure Rws (w : World) (a : Option Addr) (b o n c : Nat) (S : Nat → Sl) : Prop where
  addr : 0 < n → a = some ⟨b, o, none⟩
  out : Rd w b o n (fun i => (S i).v)
  ok : ∀ i, i < n → (S i).ok w
  cap : n ≤ c
  max : c ≤ 140737488355328
theorem Rws.later {w w' : World} {a : Option Addr} {b o n c : Nat} {S : Nat → Sl} (h : Rws w a b o n c S) (hb : Below w.heap.size w w') : Rws w' a b o n c S :=
  ⟨h.addr, h.out.later hb, fun i hi => (h.ok i hi).later hb, h.cap, h.max⟩
theorem Rws.upd {w w' : World} {G : Nat → Prop} {a : Option Addr} {b o n c : Nat} {S : Nat → Sl} (h : Rws w a b o n c S) (hu : Upd G w w') (hb : 0 < n → ¬ G b) (hs : ∀ i, i < n → 0 < (S i).n → ¬ G (S i).b) : Rws w' a b o n c S :=
  ⟨h.addr, h.out.upd hu hb, fun i hi => (h.ok i hi).upd hu (hs i hi), h.cap, h.max⟩

def LawTrue (w : World) (e : Ending) (w' : World) : Prop := e = .returned (.bool true) ∧ Below w.heap.size w w'

/-- The row that roomy made of a row. -/
def roomS (S : Nat → Sl) (β : Nat → Nat) : Nat → Sl := fun j => ⟨some ⟨β j, 0, none⟩, β j, 0, (S j).n, (S j).n + 2, roomX (S j).n (S j).x⟩
theorem roomS_ok {w : World} {B n : Nat} {S : Nat → Sl} {β : Nat → Nat} (h : Rooms w B n S β) (hs : ∀ i, i < n → (S i).n ≤ 100000) : ∀ i, i < n → (roomS S β i).ok w := fun i hi =>
  ⟨fun _ => rfl, (h.row i hi).rd.take (by show (S i).n ≤ (S i).n + 2; omega), by show (S i).n ≤ (S i).n + 2; omega, by show (S i).n + 2 ≤ _; have := hs i hi; omega⟩
end Go.Proofs.YthaamnjpjkkolabDoor
