import Derived.Test.YtgelingkifafeaaGreatDoorBu32
import Derived.Test.YtgelingkifafeaaGreatDoorBu04
import Derived.RangeFuncNested
import Derived.RangeFuncWrites
import Derived.Shelf.Abstract
/- The marks of loops over functions that are over. -/
namespace Go.Proofs.YtgelingkifafeaaGreatDoor
open Go Go.RowKit Go.Proofs
set_option maxRecDepth 100000
set_option linter.unusedVariables false
attribute [local go_sem] Oper.semAt_some

def marksOf (l : List Nat) : List Deferred := l.map fun d => { target := .collected d, args := #[] }
/-- What the marks of loops that are over leave: they are taken up, one by one. -/
theorem leaves_marks {F : Fence} {n : Nat} {P : Program} {fn : Func} {tmps : Array Value} {R : Ending → World → Prop} : ∀ (l : List Nat) (w : World), l.Pairwise (· ≠ ·) → (∀ d ∈ l, w.heap[d]? = some (.deferred (some []))) →
    (∀ w', w'.heap.size = w.heap.size → w'.os = w.os → w'.tape = w.tape → w'.output = w.output → (∀ b, b ∉ l → w'.heap[b]? = w.heap[b]?) → LeavesIn F n P fn tmps R [] .returning w') → LeavesInM F n P fn tmps R (marksOf l) .returning w
  | [], w, _, _, h => h w rfl rfl rfl rfl fun _ _ => rfl
  | d :: l, w, hp, hd, h => by
    rw [List.pairwise_cons] at hp
    refine ⟨by simp, .inl ⟨d, _, rfl, run_takeDeferred (hd d (List.mem_cons_self ..)), ?_⟩⟩
    refine leaves_marks l _ hp.2 (fun b hb => ?_) (fun w' h1 h2 h3 h4 h5 => h w' (by rw [h1, World.putObj_size]) (h2.trans rfl) (h3.trans rfl) (h4.trans rfl) fun b hb => ?_)
    · have hne : b ≠ d := fun e => hp.1 b hb e.symm
      exact (World.putObj_heap_other (by omega)).trans (hd b (List.mem_cons_of_mem _ hb))
    · have hne : b ≠ d := fun e => hb (e ▸ List.mem_cons_self ..)
      exact (h5 b fun h' => hb (List.mem_cons_of_mem _ h')).trans (World.putObj_heap_other (by omega))

theorem keepsFrom_below {W W' : World} (h : Below W.heap.size W W') (B : Nat) : KeepsFrom B W W' := ⟨h.size, fun k o _ hk _ => (h.block k (Array.getElem?_eq_some_iff.1 hk).1).trans hk⟩

theorem ownFrom_upd {α : Type} (G : Nat → Prop) (w0 : World) {B : Nat} (h : w0.heap.size ≤ B) : OwnFrom B (fun (_ : α) W => Upd G w0 W) := fun s X Y row hs hg hr =>
  ⟨hg.os.trans hs.os, hg.tape.trans hs.tape, hg.output.trans hs.output, Nat.le_trans hs.size hg.size, fun b hb hG => (hg.block b (Nat.lt_of_lt_of_le hb hs.size) (fun e => by have := (hr b e.symm).1; omega)).trans (hs.block b hb hG)⟩
end Go.Proofs.YtgelingkifafeaaGreatDoor
