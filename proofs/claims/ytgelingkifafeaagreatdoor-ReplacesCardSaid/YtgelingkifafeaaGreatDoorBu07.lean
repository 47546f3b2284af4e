import Derived.Test.YtgelingkifafeaaGreatDoorBu04
import Derived.Test.YtgelingkifafeaaGreatDoorBu06
/- A slice of bytes, as a row. -/
namespace Go.Proofs.YtgelingkifafeaaGreatDoor
open Go.RowKit Go.Proofs
set_option maxRecDepth 100000
set_option linter.unusedVariables false

/-- A slice of bytes: where it lies, how long it is, what it holds. -/
structure Sl where
  a : Option Addr
  b : Nat
  o : Nat
  n : Nat
  c : Nat
  x : Nat → UInt8

abbrev Sl.v (s : Sl) : Value := .slice s.a s.n s.c

structure Sl.ok (s : Sl) (w : World) : Prop where
  addr : 0 < s.n → s.a = some ⟨s.b, s.o, none⟩
  rd : Rd w s.b s.o s.n (bs s.x)
  cap : s.n ≤ s.c
  max : s.c ≤ 140737488355328

theorem Sl.ok.later {s : Sl} {w w' : World} (h : s.ok w) (hb : Below w.heap.size w w') : s.ok w' := ⟨h.addr, h.rd.later hb, h.cap, h.max⟩

theorem mixed : Tryz.prog.follows .mixedOrders = true := by kernel_rfl
end Go.Proofs.YtgelingkifafeaaGreatDoor

/- A list of rows that came in; what a law leaves. -/
namespace Go.Proofs.YtgelingkifafeaaGreatDoor
open Go.RowKit Go.Proofs
set_option maxRecDepth 100000
set_option linter.unusedVariables false

theorem Sl.ok.upd {s : Sl} {w w' : World} {G : Nat → Prop} (h : s.ok w) (hu : Upd G w w') (hg : 0 < s.n → ¬ G s.b) : s.ok w' := ⟨h.addr, h.rd.upd hu hg, h.cap, h.max⟩

/-- A list of rows that came in. -/
structure Rws (w : World) (a : Option Addr) (b o n c : Nat) (S : Nat → Sl) : Prop where
  addr : 0 < n → a = some ⟨b, o, none⟩
  out : Rd w b o n (fun i => (S i).v)
  ok : ∀ i, i < n → (S i).ok w
  cap : n ≤ c
  max : c ≤ 140737488355328
theorem Rws.later {w w' : World} {a : Option Addr} {b o n c : Nat} {S : Nat → Sl} (h : Rws w a b o n c S) (hb : Below w.heap.size w w') : Rws w' a b o n c S :=
  ⟨h.addr, h.out.later hb, fun i hi => (h.ok i hi).later hb, h.cap, h.max⟩
theorem Rws.upd {w w' : World} {G : Nat → Prop} {a : Option Addr} {b o n c : Nat} {S : Nat → Sl} (h : Rws w a b o n c S) (hu : Upd G w w') (hb : 0 < n → ¬ G b) (hs : ∀ i, i < n → 0 < (S i).n → ¬ G (S i).b) : Rws w' a b o n c S :=
  ⟨h.addr, h.out.upd hu hb, fun i hi => (h.ok i hi).upd hu (hs i hi), h.cap, h.max⟩

def LawTrue (w : World) (e : Ending) (w' : World) : Prop := e = .returned (.bool true) ∧ Below w.heap.size w w'
end Go.Proofs.YtgelingkifafeaaGreatDoor
