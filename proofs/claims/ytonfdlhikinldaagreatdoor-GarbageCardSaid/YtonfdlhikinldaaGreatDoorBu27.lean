import Derived.Test.YtonfdlhikinldaaGreatDoorBu21
import Derived.Test.YtonfdlhikinldaaGreatDoorBu03
import Derived.RangeFuncNested
import Derived.RangeFuncWrites
import Derived.Shelf.Abstract
set_option maxRecDepth 100000
set_option linter.all false
set_option linter.unusedVariables false
set_option maxHeartbeats 16000000
namespace Go.Proofs.YtonfdlhikinldaaGreatDoor
open Go Go.RowKit Go.Proofs Lin Go.Proofs.Tryz
attribute [local go_sem] Oper.semAt_some
def zBQ(l:List Nat):List Deferred:=l.map fun d=>{target:=.collected d,args:=#[]}
theorem zAE{F:Fence}{n:Nat}{P:Program}{O:Func}{tmps:Array Value}{R:Ending->World->Prop}:∀(l:List Nat) (w:zw),l.Pairwise (· ≠·)->(∀d∈l,w.heap[d]? =some (.deferred (some [])))->
  (∀w',w'.heap.size=w.heap.size->w'.os=w.os->w'.tape=w.tape->w'.output=w.output->(∀b,b∉l->w'.heap[b]? =w.heap[b]?)->LeavesIn F n P O tmps R [] .returning w')->LeavesInM F n P O tmps R (zBQ l) .returning w
 | [],w,_,_,h=>h w rfl rfl rfl rfl fun _ _=>rfl
 | d::l,w,hp,hd,h=>by
  rw[List.pairwise_cons]at hp;refine⟨zs,.inl ⟨d,_,rfl,run_takeDeferred (hd d (yAc ..)),?_⟩⟩;refine zAE l _ hp.2 (fun b u=>?_) (fun w' h1 h2 V Z h5=>h w' (by rw[h1,World.putObj_size]) (h2.trans rfl) (V.trans rfl) (Z.trans rfl) fun b u=>?_)
  ·have J:b≠d:=fun e=>hp.1 b u e.symm;exact(World.putObj_heap_other zo).trans (hd b (yU _ u))
  ·have J:b≠d:=fun e=>u (e▸yAc ..);exact(h5 b fun h'=>u (yU _ h')).trans (World.putObj_heap_other zo)
theorem zAb{W u:zw}(h:Below W W u)(B:Nat):KeepsFrom B W u:=⟨h.size,fun k o _ hk _=>(h.block k (Array.getElem?_eq_some_iff.1 hk).1).trans hk⟩
theorem zB4{α:Type}(G:Nat->Prop)(O:zw){B:Nat}(h:O.heap.size≤B):OwnFrom B (fun(_:α) W=>Upd G O W):=fun s X Y V hs u Z=>
 ⟨u.os.trans hs.os,u.tape.trans hs.tape,u.output.trans hs.output,yC hs.size u.size,fun b J hG=>(u.block b (yI J hs.size) (fun e=>by have:=(Z b e.symm).1;omega)).trans (hs.block b J hG)⟩
end Go.Proofs.YtonfdlhikinldaaGreatDoor
