import Derived.Test.YthaamnjpjkkolabDoorMaHeap
/- Rows whose spare room is not bounded. -/
namespace Go.Proofs.YthaamnjpjkkolabDoor
open Go.RowKit Go.Proofs
set_option maxRecDepth 100000
set_option linter.unusedVariables false

structure Sl.okn (s : Sl) (w : World) : Prop where
  addr : 0 < s.n → s.a = some ⟨s.b, s.o, none⟩
  rd : Rd w s.b s.o s.n (bs s.x)
  cap : s.n ≤ s.c
  max : s.n ≤ 140737488355328
theorem Sl.okn.later {s : Sl} {w w' : World} (h : s.okn w) (hb : Below w.heap.size w w') : s.okn w' := ⟨h.addr, h.rd.later hb, h.cap, h.max⟩
theorem Sl.okn.upd {s : Sl} {w w' : World} {G : Nat → Prop} (h : s.okn w) (hu : Upd G w w') (hg : 0 < s.n → ¬ G s.b) : s.okn w' := ⟨h.addr, h.rd.upd hu hg, h.cap, h.max⟩
theorem Sl.ok.n {s : Sl} {w : World} (h : s.ok w) : s.okn w := ⟨h.addr, h.rd, h.cap, Nat.le_trans h.cap h.max⟩

structure Rwn (w : World) (a : Option Addr) (b o n c : Nat) (S : Nat → Sl) : Prop where
  addr : 0 < n → a = some ⟨b, o, none⟩
  out : Rd w b o n (fun i => (S i).v)
  ok : ∀ i, i < n → (S i).okn w
  cap : n ≤ c
  max : n ≤ 140737488355328
theorem Rwn.later {w w' : World} {a : Option Addr} {b o n c : Nat} {S : Nat → Sl} (h : Rwn w a b o n c S) (hb : Below w.heap.size w w') : Rwn w' a b o n c S :=
  ⟨h.addr, h.out.later hb, fun i hi => (h.ok i hi).later hb, h.cap, h.max⟩
theorem Rws.n {w : World} {a : Option Addr} {b o n c : Nat} {S : Nat → Sl} (h : Rws w a b o n c S) : Rwn w a b o n c S :=
  ⟨h.addr, h.out, fun i hi => (h.ok i hi).n, h.cap, Nat.le_trans h.cap h.max⟩
end Go.Proofs.YthaamnjpjkkolabDoor
