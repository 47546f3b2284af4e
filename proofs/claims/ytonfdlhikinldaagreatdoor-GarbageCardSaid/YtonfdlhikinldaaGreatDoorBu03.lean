import Derived.Test.YtonfdlhikinldaaGreatDoorBu02
import Derived.StillTailTactics
import Derived.Deep.RegionHeld3
import Derived.Deep.RegionLaw
import Derived.Deep.RegionWith
import Derived.Deep.CutRange
import Derived.Deep.DeepCutAuto
import Derived.Deep.Light
import Derived.Deep.DeepFit
import Derived.Laws.CopyOwn
import Derived.Laws.AppendOwn
import Derived.Laws.AppendOwnNone
import Derived.Laws.Rows
import Derived.Laws.Tables
import Derived.Laws.IdiomCopy
import Derived.Maps.OwnSet
import Derived.Maps.OwnOps
import Derived.Maps.RangeWalk
set_option maxRecDepth 100000
set_option linter.all false
set_option linter.unusedVariables false
set_option maxHeartbeats 16000000
namespace Go.Proofs.YtonfdlhikinldaaGreatDoor
open Go Go.RowKit Go.Proofs Lin Go.Proofs.Tryz
structure Row (w:zw) (b o n:Nat) (f:Nat->Value):Prop where
 cell:∀i,i<n->w.cell? ⟨b,o+i,none⟩=some (f i)
 free:∀i,i<n->w.frozen? ⟨b,o+i,none⟩=false
def Rd(w:zw)(b o n:Nat)(f:Nat->Value):Prop:=∀i,i<n->w.cell? ⟨b,o+i,none⟩=some (f i)
section
variable {w w':zw} {b o n:Nat} {f g:Nat->Value}
theorem Row.rd(h:Row w b o n f):Rd w b o n f:=h.cell
theorem Rd.lt(h:Rd w b o n f)(u:0<n):b<w.heap.size:=yt _ _ (h 0 u)
theorem Row.lt(h:Row w b o n f)(u:0<n):b<w.heap.size:=h.rd.lt u
theorem Row.congr(h:Row w b o n f)(e:∀i,i<n->f i=g i):Row w b o n g:=
 ⟨fun i u=>by rw[h.cell i u,e i u],h.free⟩
theorem Rd.congr(h:Rd w b o n f)(e:∀i,i<n->f i=g i):Rd w b o n g:=fun i u=>by rw[h i u,e i u]
theorem Rd.of_block(h:Rd w b o n f)(e:0<n->w'.heap[b]? =w.heap[b]?):Rd w' b o n f:=fun i u=>by
 rw[<-h i u];exact yk (w:=w) (a:=(b,o+i)) (e zo)
theorem Row.of_block(h:Row w b o n f)(e:0<n->w'.heap[b]? =w.heap[b]?):Row w' b o n f:=
 ⟨h.rd.of_block e,fun i u=>by rw[<-h.free i u];exact World.frozen?_of_block (w:=w) (a:=⟨b,o+i,none⟩) (e zo)⟩
theorem Rd.below{B:Nat}(h:Rd w b o n f)(J:Below B w w')(u:0<n->b<B):Rd w' b o n f:=h.of_block fun O=>J.block b (u O)
theorem Row.below{B:Nat}(h:Row w b o n f)(J:Below B w w')(u:0<n->b<B):Row w' b o n f:=h.of_block fun O=>J.block b (u O)
theorem Rd.later(h:Rd w b o n f)(u:Below w w w'):Rd w' b o n f:=h.below u h.lt
theorem Row.later(h:Row w b o n f)(u:Below w w w'):Row w' b o n f:=h.below u h.lt
theorem Rd.alloc(h:Rd w b o n f)(x:Obj):Rd (w.alloc x) b o n f:=h.of_block fun u=>Deep.blk_alloc_lt _ _ _ (h.lt u)
theorem Row.alloc(h:Row w b o n f)(x:Obj):Row (w.alloc x) b o n f:=h.of_block fun u=>Deep.blk_alloc_lt _ _ _ (h.lt u)
theorem Rd.drewN(h:Rd w b o n f)(k:Nat):Rd (w.drewN k) b o n f:=fun i u=>h i u
theorem Row.drew(h:Row w b o n f):Row w.drew b o n f:=⟨h.cell,h.free⟩
theorem Row.drewN(h:Row w b o n f)(k:Nat):Row (w.drewN k) b o n f:=⟨h.cell,h.free⟩
theorem Rd.other(h:Rd w b o n f){a:Addr}(u:0<n->a.block≠b)(v:Value):Rd (w.setCell a v) b o n f:=
 h.of_block fun J=>Deep.blk_setCell_other _ _ _ _ (yBo (u J))
theorem Row.other(h:Row w b o n f){a:Addr}(u:a.block≠b)(v:Value):Row (w.setCell a v) b o n f:=
 h.of_block fun _=>Deep.blk_setCell_other _ _ _ _ (yBo u)
theorem zAA{w:zw}{b k:Nat}{u:Value}(h:w.cell? (b,k)=some u)(v:Value):(w.setCell (b,k) v).cell? (b,k)=some v:=by
 unfold World.cell? at h ⊢;unfold World.setCell;simp only[yBD,yBa];(cases O:w.heap[b]? with |none=>(simp[O]at h)|some ob=>(cases ob<;>simp_all;obtain⟨J,_⟩:=Array.getElem?_eq_some_iff.1 h;rw[yAN];simp[J]))
theorem zCJ{w:zw}{b k j:Nat}(h:j≠k)(v:Value):(w.setCell (b,k) v).cell? (b,j)=w.cell? (b,j):=by
 unfold World.cell? World.setCell;simp only[yBD,yBa];(cases u:w.heap[b]? with |none=>(simp)|some ob=>(cases ob<;>simp;rw[yAN];simp[yBo h]))
theorem zBv{w:zw}{a p:Addr}(v:Value):(w.setCell a v).frozen? p=w.frozen? p:=by
 unfold World.frozen? World.setCell;simp only[yBD];by_cases e:a.block=p.block;{rw[yq e];(cases u:w.heap[p.block]? with |none=>(simp)|some ob=>(cases ob<;>simp))};{rw[yl e]}
theorem Row.set(h:Row w b o n f){i:Nat}(J:i<n)(v:Value):Row (w.setCell (b,o+i) v) b o n (fun j=>if j=i then v else f j):=by
 refine⟨fun j u=>?_,fun j u=>by rw[zBv];exact h.free j u⟩;by_cases e:j=i;{subst e;simp only[yBa];exact zAA (h.cell j u) v};{simp only[yl e];rw[zCJ zo];exact h.cell j u}
theorem Row.aside(h:Row w b o n f){k:Nat}(hk:k<o∨o+n≤k)(v:Value):Row (w.setCell (b,k) v) b o n f:=
 ⟨fun j u=>by rw[zCJ zo];exact h.cell j u,fun j u=>by rw[zBv];exact h.free j u⟩
theorem Row.sub(h:Row w b o n f){k m:Nat}(hk:k+m≤n):Row w b (o+k) m (fun i=>f (k+i)):=
 ⟨fun i u=>by rw[yAS];exact h.cell (k+i) zo,fun i u=>by rw[yAS];exact h.free (k+i) zo⟩
theorem Row.take(h:Row w b o n f){m:Nat}(J:m≤n):Row w b o m f:=⟨fun i u=>h.cell i zo,fun i u=>h.free i zo⟩
theorem Rd.take(h:Rd w b o n f){m:Nat}(J:m≤n):Rd w b o m f:=fun i u=>h i zo
theorem Row.made{t:TypeId}(h:w.rowIs b t n f):Row w b 0 n f:=⟨fun i u=>by rw[yc];exact h.cell u,fun i _=>h.frozen _⟩
theorem Row.empty(w:zw)(b o:Nat)(f:Nat->Value):Row w b o 0 f:=⟨fun i u=>absurd u zo,fun i u=>absurd u zo⟩
theorem Rd.empty(w:zw)(b o:Nat)(f:Nat->Value):Rd w b o 0 f:=fun i u=>absurd u zo
end
theorem Row.new(w:zw)(z:Value)(n:Nat)(t:TypeId):Row (w.alloc (.cells (madeCells #[z] n) t)) w 0 n (fun _=>z):=
 Row.made (World.rowIs_made w z n t)
structure Upd (G:Nat->Prop) (w w':zw):Prop where
 os:w'.os=w.os
 tape:w'.tape=w.tape
 output:w'.output=w.output
 size:w.heap.size≤w'.heap.size
 block:∀k,k<w.heap.size->¬G k->w'.heap[k]? =w.heap[k]?
namespace Upd
variable {G H:Nat->Prop} {w w' w'':zw}
theorem refl(G:Nat->Prop)(w:zw):Upd G w w:=⟨rfl,rfl,rfl,yb _,fun _ _ _=>rfl⟩
theorem trans(h:Upd G w w')(k:Upd H w' w'')(O:∀b,H b->b<w.heap.size->G b):Upd G w w'':=
 ⟨k.os.trans h.os,k.tape.trans h.tape,k.output.trans h.output,yC h.size k.size,fun b u J=>
  (k.block b (yI u h.size) fun V=>J (O b V u)).trans (h.block b u J)⟩
theorem mono(h:Upd G w w')(V:∀b,b<w.heap.size->G b->H b):Upd H w w':=
 ⟨h.os,h.tape,h.output,h.size,fun b u O=>h.block b u fun J=>O (V b u J)⟩
theorem drew(h:Upd G w w'):Upd G w w'.drew:=⟨h.os,h.tape,h.output,h.size,h.block⟩
theorem drewN(h:Upd G w w')(n:Nat):Upd G w (w'.drewN n):=⟨h.os,h.tape,h.output,h.size,h.block⟩
theorem alloc(h:Upd G w w')(o:Obj):Upd G w (w'.alloc o):=
 ⟨h.os,h.tape,h.output,yC h.size (by rw[Deep.nblk_alloc];omega),fun b u J=>by
  rw[Deep.blk_alloc_lt _ _ _ (yI u h.size)];exact h.block b u J⟩
theorem setCell(h:Upd G w w'){a:Addr}(V:a.block<w.heap.size->G a.block)(v:Value):Upd G w (w'.setCell a v):=
 ⟨h.os,h.tape,h.output,yC h.size (by rw[Deep.nblk_setCell];exact yb _),fun b J O=>by
  have u:b≠a.block:=fun e=>O (by subst e;exact V J);rw[Deep.blk_setCell_other _ _ _ _ u];exact h.block b J O⟩
theorem of_below(h:Below w w w'):Upd (fun _=>False) w w':=⟨h.os,h.tape,h.output,h.size,fun b u _=>h.block b u⟩
theorem below{B:Nat}(h:Upd G w w')(u:∀b,G b->B≤b)(J:B≤w.heap.size):Below B w w':=
 ⟨h.os,h.tape,h.output,h.size,fun b O=>h.block b zo fun g=>by have:=u b g;omega⟩
theorem of_grown{u:Option Nat}(h:w.grownBy w' u):Upd (fun b=>some b=u) w w':=⟨h.os,h.tape,h.output,h.size,h.block⟩
end Upd
theorem Rd.upd{G:Nat->Prop}{w w':zw}{b o n:Nat}{f:Nat->Value}(h:Rd w b o n f)(J:Upd G w w')(O:0<n->¬G b):Rd w' b o n f:=
 h.of_block fun u=>J.block b (h.lt u) (O u)
theorem Row.upd{G:Nat->Prop}{w w':zw}{b o n:Nat}{f:Nat->Value}(h:Row w b o n f)(J:Upd G w w')(O:0<n->¬G b):Row w' b o n f:=
 h.of_block fun u=>J.block b (h.lt u) (O u)
theorem Below.upd{B:Nat}{G:Nat->Prop}{u w w':zw}(h:Below B u w)(O:Upd G w w')(V:∀b,G b->B≤b)(J:B≤w.heap.size):Below B u w':=
 h.trans (O.below V J)
def Kd(w:zw)(b t:Nat):Prop:=∃c,w.heap[b]? =some (.cells c t (0,0))
theorem Kd.lt{w:zw}{b t:Nat}(h:Kd w b t):b<w.heap.size:=by
 obtain⟨c,h⟩:=h;exact(Array.getElem?_eq_some_iff.1 h).1
theorem Kd.ne{w:zw}{b J t u:Nat}(h:Kd w b t)(h':Kd w J u)(e:t≠u):b≠J:=by
 rintro rfl;obtain⟨c,h⟩:=h;obtain⟨O,h'⟩:=h';rw[h]at h';simp at h';exact e h'.2
theorem Kd.of_block{w w':zw}{b t:Nat}(h:Kd w b t)(e:w'.heap[b]? =w.heap[b]?):Kd w' b t:=by
 obtain⟨c,h⟩:=h;exact⟨c,e.trans h⟩
theorem Kd.upd{G:Nat->Prop}{w w':zw}{b t:Nat}(h:Kd w b t)(u:Upd G w w')(J:¬G b):Kd w' b t:=h.of_block (u.block b h.lt J)
theorem Kd.later{w w':zw}{b t:Nat}(h:Kd w b t)(u:Below w w w'):Kd w' b t:=h.of_block (u.block b h.lt)
theorem Kd.alloc{w:zw}{b t:Nat}(h:Kd w b t)(o:Obj):Kd (w.alloc o) b t:=h.of_block (Deep.blk_alloc_lt _ _ _ h.lt)
theorem Kd.new(w:zw)(c:Array Value)(t:Nat):Kd (w.alloc (.cells c t)) w t:=⟨c,Deep.blk_alloc_new _ _⟩
theorem Kd.set{w:zw}{b t:Nat}(h:Kd w b t)(a:Addr)(v:Value):Kd (w.setCell a v) b t:=by
 obtain⟨c,h⟩:=h;by_cases e:b=a.block;{subst e;refine⟨if a.spot.isSome then c else c.setIfInBounds a.off v,?_⟩;simp only[World.setCell,yBD,yBa,h,Option.map_some]};{exact⟨c,by rw[Deep.blk_setCell_other _ _ _ _ e];exact h⟩}
theorem Kd.setCells{b t g:Nat}:∀(u:List Value) (o:Nat) {w:zw},Kd w b t->Kd (w.setCells g o u) b t
 | [],_,_,h=>h
 | v::r,o,_,h=>by rw[World.setCells];exact Kd.setCells r (o+1) (h.set _ v)
def zO(w w':zw):Prop:=∀b t,Kd w b t->Kd w' b t
theorem zO.refl(w:zw):zO w w:=fun _ _ h=>h
theorem zO.trans{w w' u:zw}(h:zO w w')(k:zO w' u):zO w u:=fun b t x=>k b t (h b t x)
theorem zO.set{w w':zw}(h:zO w w')(a:Addr)(v:Value):zO w (w'.setCell a v):=fun b t x=>(h b t x).set a v
theorem zO.drewN{w w':zw}(h:zO w w')(n:Nat):zO w (w'.drewN n):=h
theorem zO.below{w w':zw}(h:Below w w w'):zO w w':=fun _ _ x=>x.later h
theorem zA1{b:Nat}:∀(u:List Value) (o:Nat) (w:zw),Upd (· =b) w (w.setCells b o u)∧(w.setCells b o u).heap.size=w.heap.size
 | [],_,w=>⟨Upd.refl _ _,rfl⟩
 | v::r,o,w=>by
  have J:=zA1 (b:=b) r (o+1) (w.setCell (b,o) v);rw[World.setCells];exact⟨((Upd.refl (· =b) w).setCell (fun _=>rfl) v).trans J.1 (fun _ h _=>h.symm▸rfl),by rw[J.2,Deep.nblk_setCell]⟩
theorem Row.setCells{w:zw}{b o n:Nat}{f:Nat->Value}(h:Row w b o n f)(u:List Value)(hv:u.length≤n):
  Row (w.setCells b o u) b o n (fun i=>if J:i<u.length then u[i]else f i):=by
 refine⟨fun i J=>?_,fun i J=>by rw[World.frozen?_setCells];exact h.free i J⟩;by_cases O:i<u.length;{rw[World.cell?_setCells_in b u o w (fun j V=>by rw[h.cell j zo];rfl) i O];simp[O]};{rw[World.cell?_setCells_out b u o w _ (fun _ _=>.inr (by show o+u.length≤o+i;omega)),h.cell i J];simp[O]}
section
variable {P:Program}
theorem zCQ{w:zw}{a3:Array Oper}{rest:List Oper}{o:Oper}{a:Act}{Q:Exit->Act->World->Prop}(a7:o.guard=none)(d s:Operand)(dT sT:TypeId)
  (ho:o.op=.call {callee:=.builtin .copy,args:=#[d,s],argTypes:=#[dT,sT]})(O:TypeId)(hu:P.underlying dT=some (.slice O))(a6:(P.info? O).map (·.size)=some 1)
  (dp sp:Option Addr)(J a2 V a0:Nat)(hd:a.eval d=.slice dp J a2)(hs:a.eval s=.slice sp V a0)
  (m db dof n sb so:Nat)(f g:Nat->Value)(hm:m=Nat.min V J)(hn:m≤n)(Z:Row w db dof n f)(a5:Rd w sb so m g)
  (a9:0<m->dp=some ⟨db,dof,none⟩)(b0:0<m->sp=some ⟨sb,so,none⟩)(h1:∀i,i<m->(g i).oneCell'=true)
  (h:∀w',Upd (· =db) w w'->w'.heap.size=w.heap.size->zO w w'->Row w' db dof n (fun i=>if i<m then g i else f i)->wpList P a3 Q rest (a.put o.dst (goInt m)) w'):
  wpList P a3 Q (o::rest) a w:=by
 by_cases h0:m=0;{refine wpList_copy_nothing a7 d s dT sT ho O hu a6 dp sp J a2 V a0 hd hs zo ?_;have:=h w (Upd.refl _ _) rfl (fun _ _ h=>h) (Z.congr fun i _=>by simp[h0]);rwa[h0]at this}
 ·have ep:=a9 zo;have es:=b0 zo;subst ep;subst es;refine wpList_plain a7 fun K hK=>?_;generalize hcs:(List.range m).map g=cs;have u:cs.length=m:=(by simp[<-hcs]);have a1:∀j (hj:j<cs.length),cs[j]=g j:=(by intro j hj;simp[<-hcs]);have a4:∀(b o j:Nat),(⟨b,o,none⟩:Addr).add j=⟨b,o+j,none⟩:=(by intro b o j;unfold Addr.add;split<;>simp_all)
  have a8:=run_copy_cells (P:=P) w dT sT o.type O db dof J a2 ⟨sb,so,none⟩ V a0 cs hu a6 (by rw[u,hm])
   (fun j v hj=>by
    obtain⟨hl,e⟩:=List.getElem?_eq_some_iff.1 hj;rw[a4,<-e,a1];exact a5 j zo)
   (fun j hj=>by rw[Z.cell j zo];rfl) (fun j hj=>Z.free j zo)
   (fun v hv=>by
    obtain⟨j,hj,rfl⟩:=yBv hv;rw[a1];exact h1 j zo)
  unfold Oper.wp;simp[execOp,ho,resolve,invoke,builtin,hd,hs,a8,Result.andThen];rw[u];have hh:=zA1 (b:=db) cs dof w;refine hK _ _ (h _ hh.1 hh.2 (fun _ _ hk=>hk.setCells cs dof) ((Z.setCells cs zo).congr fun i _=>?_));by_cases hi:i<m;{simp[hi,u,a1]};{simp[hi,u]}
end
theorem zBP:(prog.info? 5).map (fun i=>(i.zero,i.size,i.bytes))=some (some (.int .u8 0),1,1):=by kernel_rfl
theorem zHA:(prog.info? 31).map (fun i=>(i.zero,i.size,i.bytes))=some (some (.slice none 0 0),1,24):=by kernel_rfl
theorem zE2:(prog.info? 5).map (·.size)=some 1:=by kernel_rfl
theorem zA2(n:Int)(u:0≤n)(J:n≤1000000)(w:zw):
  (Instr.makeSlice 31 (.int .i64 n) (.int .i64 n)).run prog w=.ok (.slice w n.toNat n.toNat) (w.alloc (.cells (madeCells #[.int .u8 0] n.toNat) 5)):=by
 have:=run_make_row' (P:=prog) 31 5 (.int .u8 0) 1 underlying31 zBP rfl .i64 .i64 n.toNat zo zo w;rwa[Int.toNat_of_nonneg u]at this
end Go.Proofs.YtonfdlhikinldaaGreatDoor
namespace Go.Proofs.YtonfdlhikinldaaGreatDoor
open Go Go.RowKit Go.Proofs Lin Go.Proofs.Tryz
variable {Q:Exit->Act->World->Prop}{x y:Nat->UInt8}{rest:List Oper}{w:zw}{f g:Nat->Value}{a:Option Addr}{G:Nat->Prop}{o:Oper}{a0:Array Oper}{n:Nat}
abbrev bs(x:Nat->UInt8):Nat->Value:=fun i=>B (x i)
def zHP(x y:Nat->UInt8)(k:Nat):Prop:=∀i<k,x i=y i
theorem zKf{k:Nat}(h:zHP x y k)(e:x k=y k):zHP x y (k+1):=by
 intro i u;by_cases h':i=k;{subst h';exact e};{exact h i zo}
def zGj(n m:Nat)(x y:Nat->UInt8):Bool:=n==m&&(List.range n).all fun i=>x i==y i
theorem zGL{n m:Nat}:zGj n m x y=true↔n=m∧zHP x y n:=by simp[zGj,zHP]
theorem zO1{n m:Nat}(h:n≠m):zGj n m x y=false:=by
 rw[Bool.eq_false_iff];exact fun e=>h (zGL.1 e).1
theorem zQp{n k:Nat}(hk:k<n)(h:x k≠y k):zGj n n x y=false:=by
 rw[Bool.eq_false_iff];exact fun e=>h ((zGL.1 e).2 k hk)
theorem zJl(h:zHP x y n):zGj n n x y=true:=zGL.2 ⟨rfl,h⟩
theorem zIL{a b:Bool}(h:a=b):Ending.returned (.bool a)=.returned (.bool b):=by rw[h]
theorem zSe{x y:UInt8}(h:(((x.toNat:Int)) !=(y.toNat:Int))=true):x≠y:=by
 rintro rfl;simp at h
theorem zSf{x y:UInt8}(h:(((x.toNat:Int)) !=(y.toNat:Int))=false):x=y:=by
 simp at h;exact yAB zo
def zFE(n:Nat)(x:Nat->UInt8):Nat->UInt8:=fun i=>if i<n then x i else if i=n then 71 else 72
theorem Row.zj{g n k:Nat}{z:Nat->UInt8}(h:Row w g 0 n (bs z))(hk:k<n){v:Int}(u:UInt8)(hv:v=(u.toNat:Int)):
  Row (w.setCell (g,k) (.int .u8 v)) g 0 n (bs (fun j=>if j=k then u else z j)):=by
 have:=h.set hk (.int .u8 v);rw[yc]at this;refine this.congr fun j _=>?_;by_cases e:j=k<;>simp[e,bs,B,hv]
theorem zMs{w u:zw}{x:Nat->UInt8}{O:Obj}
  (hu:Upd (· =w.heap.size) (w.alloc O) u)(hz:u.heap.size=(w.alloc O).heap.size)
  (hr:Row u w 0 (n+2) fun i=>if i<n then bs x i else .int .u8 0)(hk:Kd u w 5){w2:zw}
  (e:w2=(u.setCell (w,n) (.int .u8 71)).setCell (w,n+1) (.int .u8 72)):
  Below w w w2∧w2.heap.size=w.heap.size+1∧Row w2 w 0 (n+2) (bs (zFE n x))∧Kd w2 w 5:=by
 subst e;refine⟨?_,?_,?_,(hk.set _ _).set _ _⟩;{have J:=((hu.setCell (a:=(w,n)) (fun _=>rfl) (.int .u8 71)).setCell (a:=(w,n+1)) (fun _=>rfl) (.int .u8 72));exact Below.upd ((yh w w).alloc (yb _) O) J (fun b hb=>zo) (by rw[Deep.nblk_alloc];omega)};{rw[Deep.nblk_setCell,Deep.nblk_setCell,hz,Deep.nblk_alloc]};{have J:=hr.set (i:=n) zo (.int .u8 71);have h2:=J.set (i:=n+1) zo (.int .u8 72);simp only[yc]at h2;refine h2.congr fun i hi=>?_;unfold zFE bs;by_cases V:i=n+1;{subst V;simp[show ¬n+1<n by omega]};{by_cases Z:i=n;{subst Z;simp};{simp[V,Z,show i<n by omega]}}}
def Vc(w:zw)(base e:Nat)(v:Value)(n:Nat)(f:Nat->Value):Prop:=w.ownsRow base e 1 v n ((List.range n).map f)
section
variable {w w':zw} {base e n:Nat} {v:Value} {f g:Nat->Value}
theorem Vc.nil(w:zw)(base e:Nat)(f:Nat->Value):Vc w base e (.slice none 0 0) 0 f:=World.ownsRow_nil w base e 1
theorem Vc.congr(h:Vc w base e v n f)(u:∀i,i<n->f i=g i):Vc w base e v n g:=by
 unfold Vc at *;rwa[show(List.range n).map g=(List.range n).map f from yY fun i J=>(u i (by simpa using J)).symm]
theorem Vc.lt(h:Vc w base e v n f):∀k,v.ownBlock=some k->base≤k∧k<w.heap.size:=World.ownsRow.lt h
theorem Vc.shape(h:Vc w base e v n f):∃a b c,v=.slice a n c∧(0<n->a=zp b)∧Row w b 0 n f∧n≤c∧(0<n->base≤b∧Kd w b e)∧(∀k,v.ownBlock=some k->k=b):=by
 obtain⟨hl,h⟩:=h;rcases h with⟨rfl,rfl⟩ | ⟨g,J,u,rfl,hb,O,hn,hm,hs,ht⟩;{exact⟨none,0,0,rfl,fun h=>absurd h zo,Row.empty _ _ _ _,yb _,fun h=>absurd h zo,by simp[Value.ownBlock]⟩};{refine⟨_,g,J,rfl,fun _=>rfl,⟨fun i Z=>?_,fun i Z=>?_⟩,hn,fun _=>⟨hb,u,O⟩,by simp[Value.ownBlock]⟩;{simp only[World.cell?,O,yc];have:u.toList[i]? =some (f i):=(by have V:(u.toList.take (n*1))[i]? =((List.range n).map f)[i]? :=(by rw[ht]);rw[yAu,yq zo]at V;rw[V];simp[Z]);simpa using this};{simp[World.frozen?,O]}}
theorem Vc.kept(h:Vc w base e v n f)(Z:Upd G w w')(O:∀k,v.ownBlock=some k->¬G k):Vc w' base e v n f:=by
 refine⟨h.1,?_⟩;rcases h.2 with hn | ⟨g,J,u,rfl,hb,V,rest⟩;{exact .inl hn};{exact .inr ⟨g,J,u,rfl,hb,by rw[Z.block g (Array.getElem?_eq_some_iff.1 V).1 (O g rfl)];exact V,rest⟩}
theorem Vc.alloc(h:Vc w base e v n f)(o:Obj):Vc (w.alloc o) base e v n f:=World.ownsRow.alloc h o
theorem Vc.later(h:Vc w base e v n f)(u:Below w w w'):Vc w' base e v n f:=h.kept (Upd.of_below u) (fun _ _=>id)
theorem Vc.drewN(h:Vc w base e v n f)(k:Nat):Vc (w.drewN k) base e v n f:=h
theorem Vc.qa{b t:Nat}(h:Vc w base e v n f)(hk:Kd w b t)(J:t≠e):∀k,v.ownBlock=some k->k≠b:=by
 intro k hv;rcases h.2 with⟨rfl,_⟩ | ⟨g,O,u,rfl,_,V,_⟩;{simp[Value.ownBlock]at hv};{simp[Value.ownBlock]at hv;subst hv;exact(Kd.ne hk ⟨u,V⟩ J).symm}
end
section
variable {P:Program}
theorem zIQ(w:zw)(base:Nat)(t ty e:TypeId)(z:Value)(J:Nat)(ht:P.underlying t=some (.slice e))(a1:(P.info? e).map (fun i=>(i.zero,i.size,i.bytes))=some (some z,1,J))(a8:z.cells=#[z])
  (v:Value)(n:Nat)(f:Nat->Value)(O:Vc w base e v n f)(sp:Option Addr)(m c sb so:Nat)(g:Nat->Value)(a7:0<m->sp=some ⟨sb,so,none⟩)(a6:Rd w sb so m g)(h1:∀i,i<m->(g i).oneCell'=true)
  (a5:n+m≤1099511627776)(a9:J≤64)(a0:base≤w.heap.size):
  ∃Z w',(Builtin.append_ #[t,t] ty #[v,.slice sp m c]).run P w=.ok Z w'∧Vc w' base e Z (n+m) (fun i=>if i<n then f i else g (i - n))∧w.grownBy w' v.ownBlock:=by
 obtain⟨i,hi,hz,hs,hb⟩:=info_parts a1;have a2:(List.range (n+m)).map (fun i=>if i<n then f i else g (i - n))=(List.range n).map f++(List.range m).map g:=(by rw[List.range_add,yP,List.map_map];congr 1;{exact yY fun i hi=>(by simp at hi;simp[hi])};{exact yY fun i _=>(by simp[show ¬n+i<n by omega])});have a4:(1099511627776:Nat)≤maxLen:=(by unfold maxLen;omega)
 have V:(n+m)*J≤140737488355328:=by
  calc (n+m)*J≤1099511627776*64:=yAJ a5 a9
   _≤140737488355328:=zo
 cases sp with
 | some ad=>
  have b0:∀(ad:Addr),(∀j u,((List.range m).map g)[j]? =some u->w.cell? (ad.add j)=some u)->
    ∃Z w',(Builtin.append_ #[t,t] ty #[v,.slice (some ad) m c]).run P w=.ok Z w'∧w'.ownsRow base e 1 Z (n+m) ((List.range n).map f++(List.range m).map g)∧w.grownBy w' v.ownBlock:=by
   intro ad hc;obtain⟨Z,w',hr,h2,h3,_⟩:=run_append_own (P:=P) w base t ty e i z 1 J ht hi hz hs hb (by rw[a8];rfl) zd v n _ O ad m c ((List.range m).map g) zs hc
    (fun u hu=>by obtain⟨j,hj,rfl⟩:=List.mem_map.1 hu;exact h1 j (by simpa using hj)) (yC a5 a4) V a0
   exact⟨Z,w',hr,h2,h3⟩
  obtain⟨Z,w',hr,h2,h3⟩:=b0 ad (fun j u hj=>by
   by_cases hm:j<m
   ·have:=a7 zo;simp at this;subst this;have a3:(⟨sb,so,none⟩:Addr).add j=⟨sb,so+j,none⟩:=by unfold Addr.add;split<;>simp_all
    rw[a3,a6 j hm];simp[hm]at hj;rw[hj]
   ·simp[hm]at hj)
  exact⟨Z,w',hr,by unfold Vc;rw[a2];exact h2,h3⟩
 | none=>
  have hm:m=0:=(by rcases yAF m with h | h;{exact h};{have:=a7 h;simp at this});subst hm;refine⟨v,w,?_,O.congr fun i hi=>by simp[show i<n by omega],⟨rfl,rfl,rfl,yb _,fun _ _ _=>rfl⟩⟩;rcases O.2 with⟨rfl,rfl⟩ | ⟨g,b1,b3,rfl,_,hg,hn,_,b2,_⟩;{simp[Builtin.append_,yAY ht,sizeOf,typeInfo,hi,Builtin.lenOf,Builtin.firstCells]};{simp[Builtin.append_,yAY ht,sizeOf,typeInfo,hi,Builtin.lenOf,Builtin.firstCells,storeCells,hn]}
theorem zU{a:Act}(a5:o.guard=none)(s x:Operand)(t:TypeId)
  (ho:o.op=.call {callee:=.builtin .append,args:=#[s,x],argTypes:=#[t,t]})
  (base:Nat)(e:TypeId)(z:Value)(u:Nat)(ht:P.underlying t=some (.slice e))(O:(P.info? e).map (fun i=>(i.zero,i.size,i.bytes))=some (some z,1,u))(a3:z.cells=#[z])
  (v:Value)(n:Nat)(f:Nat->Value)(hs:a.eval s=v)(V:Vc w base e v n f)(sp:Option Addr)(m c sb so:Nat)(g:Nat->Value)(hx:a.eval x=.slice sp m c)(a2:0<m->sp=some ⟨sb,so,none⟩)(Z:Rd w sb so m g)(h1:∀i,i<m->(g i).oneCell'=true)
  (a1:n+m≤1099511627776)(a4:u≤64)(J:base≤w.heap.size)
  (h:∀v' w',Vc w' base e v' (n+m) (fun i=>if i<n then f i else g (i - n))->Upd (fun b=>some b=v.ownBlock) w w'->wpList P a0 Q rest (a.put o.dst v') w'):wpList P a0 Q (o::rest) a w:=by
 refine wpList_plain a5 fun K hK=>?_;obtain⟨v',w',hr,h2,h3⟩:=zIQ (P:=P) w base t o.type e z u ht O a3 v n f V sp m c sb so g a2 Z h1 a1 a4 J;unfold Oper.wp execOp;simp only[ho,resolve,invoke,builtin,yS,yAw,yAs,List.map_toArray,yAT,yBi,hs,hx,hr];exact hK _ _ (h v' w' h2 (Upd.of_grown h3))
theorem zW{Z:Array Oper}{a:Act}(a4:o.guard=none)(s x:Operand)(t:TypeId)
  (ho:o.op=.call {callee:=.builtin .append,args:=#[s,x],argTypes:=#[t,t]})
  (base:Nat)(e:TypeId)(z:Value)(J:Nat)(ht:P.underlying t=some (.slice e))(O:(P.info? e).map (fun i=>(i.zero,i.size,i.bytes))=some (some z,1,J))(a2:z.cells=#[z])
  (v:Value)(n:Nat)(f:Nat->Value)(hs:a.eval s=v)(V:Vc w base e v n f)(u:Value)(tu:TypeId)(hx:a.eval x=.slice w 1 1)(h1:u.oneCell'=true)
  (a1:n+1≤1099511627776)(a3:J≤64)(a0:base≤w.heap.size)
  (h:∀v' w',Vc w' base e v' (n+1) (fun i=>if i<n then f i else u)->Upd (fun b=>some b=v.ownBlock) w w'->wpList P Z Q rest (a.put o.dst v') w'):wpList P Z Q (o::rest) a (w.alloc (.cells #[u] tu)):=by
 refine zU a4 s x t ho base e z J ht O a2 v n f hs (V.alloc _) (zp (w.heap.size)) 1 1 w 0 (fun _=>u) hx (fun _=>rfl) ?_ (fun _ _=>h1) a1 a3 (by rw[Deep.nblk_alloc];omega) ?_;{intro i hi;have:i=0:=zo;subst this;simp only[World.cell?,yc,Deep.blk_alloc_new];simp};{intro v' w' hv hu;exact h v' w' hv (((Upd.refl _ w).alloc _).trans hu fun b hb _=>hb)}
end
structure Sl where
 a:Option Addr
 b:Nat
 o:Nat
 n:Nat
 c:Nat
 x:Nat->UInt8
abbrev Sl.v(s:Sl):Value:=.slice s.a s.n s.c
structure Sl.ok (s:Sl) (w:zw):Prop where
 addr:0<s.n->s.a=some ⟨s.b,s.o,none⟩
 rd:Rd w s.b s.o s.n (bs s.x)
 cap:s.n≤s.c
 max:s.c≤140737488355328
theorem zA7:prog.follows .mixedOrders=true:=by kernel_rfl
def zSX(w:zw)(e:Ending)(w':zw):Prop:=e=.returned (.bool true)∧Below w w w'
abbrev rb(x:Nat->UInt8):Nat->Value:=fun i=>B (x i)
def bc(n:Nat)(f:Nat->Value):Array Value:=((List.range n).map f).toArray
theorem zRY(f:Nat->Value){j:Nat}(h:j<n):(bc n f)[j]? =some (f j):=by simp[bc,h]
abbrev zc:Nat->Value:=fun _=>.int .u8 0
abbrev av(n:Nat)(f:Nat->Value):Value:=.agg (bc n f)
theorem Row.box(w:zw)(n:Nat)(f:Nat->Value)(t:TypeId):Row (w.alloc (.cells (bc n f) t)) w 0 n f:=by
 refine⟨fun i u=>?_,fun i u=>?_⟩;{simp only[World.cell?,yc,Deep.blk_alloc_new];exact zRY f u};{simp only[World.frozen?,Deep.blk_alloc_new];simp}
section
variable {P:Program}
theorem zBW{w:zw}{J:TypeId}{b o n:Nat}{f:Nat->Value}{d:TypeDesc}(h:Rd w b o n f)(hu:P.underlying J=some d)(hd:(match d with | .struct _ | .array _ _=>true | _=>false)=true)(hi:(P.info? J).map (·.size)=some n):
  (loadVar J ⟨b,o,none⟩).run P w=.ok (av n f) w:=by
 have hl:(loadCells ⟨b,o,none⟩ ((List.range n).map f).length).run P w=.ok ((List.range n).map f).toArray w:=
  run_loadCells_list (P:=P) w ⟨b,o,none⟩ _ (fun j v hv=>by
   have u:(⟨b,o,none⟩:Addr).add j=⟨b,o+j,none⟩:=by unfold Addr.add;split<;>simp_all
   by_cases V:j<n
   ·rw[u,h j V];simpa[V]using hv
   ·simp[V]at hv)
 (cases Z:P.info? J with |none=>(simp[Z]at hi)|some i=>(have hs:i.size=n:=(by simpa[Z]using hi);have O:(isAgg J).run P w=.ok true w:=(by unfold isAgg;rw[yS,yAY hu w];cases d<;>simp_all);simp only[yH,List.length_range]at hl;simp[loadVar,yS,O,sizeOf,typeInfo,Z,hs,hl,bc]))
theorem zL{u:Array Oper}{rest:List Oper}{o:Oper}{a:Act}{w:zw}{Q:Exit->Act->World->Prop}(V:o.guard=none)(O:TypeId)(x:Operand)(ho:o.op=.load O x)
  {b J n:Nat}{f:Nat->Value}{d:TypeDesc}(hx:a.eval x=.pointer (some ⟨b,J,none⟩))(h:Rd w b J n f)(Z:P.underlying O=some d)(hd:(match d with | .struct _ | .array _ _=>true | _=>false)=true)(hi:(P.info? O).map (·.size)=some n)
  (hk:wpList P u Q rest (a.put o.dst (av n f)) w):wpList P u Q (o::rest) a w:=by
 refine wpList_plain V fun K hK=>?_;unfold Oper.wp execOp;simp only[ho,hx,Instr.loadAt,Instr.sureAddr,yS,yAw,yAs,zBW h Z hd hi];exact hK _ _ hk
theorem zHZ{V:TypeId}{b o n:Nat}(h:Row w b o n f)(u:(P.info? V).map (·.size)=some n)(h1:∀i,i<n->(g i).oneCell'=true):
  (storeVar V ⟨b,o,none⟩ (av n g)).run P w=.ok () (w.setCells b o ((List.range n).map g)):=by
 have J:=run_storeCells_cells (P:=P) b o ((List.range n).map g) 0 w (fun j Z=>by rw[yAk,h.cell j (by simpa using Z)];rfl) (fun j Z=>by rw[yAk];exact h.free j (by simpa using Z)) (fun v hv=>by obtain⟨i,u,rfl⟩:=List.mem_map.1 hv;exact h1 i (by simpa using u));(cases O:P.info? V with |none=>(simp[O]at u)|some i=>(have hs:i.size=n:=(by simpa[O]using u);simp[storeVar,sizeOf,typeInfo,O,Value.cells,hs,bc,J]))
theorem zCU{J:Array Oper}{a:Act}(O:o.guard=none)(V:TypeId)(x y:Operand)(ho:o.op=.store V x y)
  {b u n:Nat}(hx:a.eval x=.pointer (some ⟨b,u,none⟩))(hy:a.eval y=av n g)(h:Row w b u n f)(hi:(P.info? V).map (·.size)=some n)(h1:∀i,i<n->(g i).oneCell'=true)
  (hk:wpList P J Q rest (a.put o.dst undef) (w.setCells b u ((List.range n).map g))):wpList P J Q (o::rest) a w:=by
 refine wpList_plain O fun K Z=>?_;unfold Oper.wp execOp;simp only[ho,hx,hy,Instr.storeAt,Instr.sureAddr,yS,yAw,yAs,zHZ h hi h1];exact Z _ _ hk
theorem Row.stored{b o n:Nat}(h:Row w b o n f):Row (w.setCells b o ((List.range n).map g)) b o n g:=
 (h.setCells _ zs).congr fun i u=>by simp[u]
theorem zBy{O:Func}{p:Tmp}{u:TypeId}(h:O.results=#[.cell p u]){tmps:Array Value}{w:zw}{b n:Nat}{f:Nat->Value}{d:TypeDesc}(hp:tmps.getD p undef=.pointer (zp b))(hr:Rd w b 0 n f)
  (V:P.underlying u=some d)(Z:(match d with | .struct _ | .array _ _=>true | _=>false)=true)(hi:(P.info? u).map (·.size)=some n):(results O tmps).run P w=.ok (av n f) w:=by
 have J:tmps[p]?.getD undef=.pointer (zp b):=(by simpa using hp);simp[results,h,J,asAddr,zBW hr V Z hi]
theorem zZ{O:Func}{p s:Tmp}{u:TypeId}(h:O.results=#[.cell p u,.tmp s]){tmps:Array Value}{w:zw}{b n:Nat}{f:Nat->Value}{d:TypeDesc}(hp:tmps.getD p undef=.pointer (zp b))(hr:Rd w b 0 n f)
  (V:P.underlying u=some d)(Z:(match d with | .struct _ | .array _ _=>true | _=>false)=true)(hi:(P.info? u).map (·.size)=some n):(results O tmps).run P w=.ok (.tuple #[av n f,tmps.getD s undef]) w:=by
 have J:tmps[p]?.getD undef=.pointer (zp b):=(by simpa using hp);simp[results,h,J,asAddr,zBW hr V Z hi,yS]
end
def elz(z:Nat)(f:Nat->Nat->Value):Nat->Value:=fun i=>f (i / z) (i % z)
theorem zBV{z:Nat}(f:Nat->Nat->Value)(k j:Nat)(u:j<z):elz z f (k*z+j)=f k j:=by
 unfold elz;rw[yAW k z,Nat.mul_add_div zo,Nat.div_eq_of_lt u,Nat.mul_add_mod,yAz u,yAk]
theorem zBK{k n z j:Nat}(hk:k<n)(u:j<z):k*z+j<n*z:=by
 have:(k+1)*z≤n*z:=yBn _ hk;rw[Nat.add_mul]at this;omega
theorem zBB(b o j:Nat):(⟨b,o,none⟩:Addr).add j=⟨b,o+j,none⟩:=by unfold Addr.add;split<;>simp_all
theorem zBO(w:zw)(c:Array Value)(t j:Nat):(w.alloc (.cells c t)).cell? (w,j)=c[j]? :=by
 unfold World.cell?;rw[Deep.blk_alloc_new];simp
def Vz(w:zw)(base e z:Nat)(v:Value)(n:Nat)(f:Nat->Nat->Value):Prop:=w.ownsRow base e z v n ((List.range (n*z)).map (elz z f))
section
variable {w w':zw} {base e z n:Nat} {v:Value} {f g:Nat->Nat->Value}
theorem Vz.nil(w:zw)(base e z:Nat)(f:Nat->Nat->Value):Vz w base e z (.slice none 0 0) 0 f:=by
 have:=World.ownsRow_nil w base e z;unfold Vz;rwa[yAZ]
theorem Vz.lt(h:Vz w base e z v n f):∀k,v.ownBlock=some k->base≤k∧k<w.heap.size:=World.ownsRow.lt h
theorem Vz.congr(h:Vz w base e z v n f)(J:∀i,i<n->∀j,j<z->f i j=g i j):Vz w base e z v n g:=by
 unfold Vz at *;rwa[show(List.range (n*z)).map (elz z g)=(List.range (n*z)).map (elz z f)from yY fun i V=>by have u:i<n*z:=(by simpa using V);have O:0<z:=(by rcases yAF z with h0 | h0;{subst h0;simp at u};{exact h0});exact(J (i / z) (Nat.div_lt_of_lt_mul (by rwa[yAW])) (i % z) (yAM _ O)).symm]
theorem Vz.kept(h:Vz w base e z v n f)(Z:Upd G w w')(O:∀k,v.ownBlock=some k->¬G k):Vz w' base e z v n f:=by
 refine⟨h.1,?_⟩;rcases h.2 with hn | ⟨g,J,u,rfl,hb,V,rest⟩;{exact .inl hn};{exact .inr ⟨g,J,u,rfl,hb,by rw[Z.block g (Array.getElem?_eq_some_iff.1 V).1 (O g rfl)];exact V,rest⟩}
theorem Vz.alloc(h:Vz w base e z v n f)(o:Obj):Vz (w.alloc o) base e z v n f:=World.ownsRow.alloc h o
theorem Vz.later(h:Vz w base e z v n f)(u:Below w w w'):Vz w' base e z v n f:=h.kept (Upd.of_below u) (fun _ _=>id)
theorem Vz.qa{b t:Nat}(h:Vz w base e z v n f)(hk:Kd w b t)(J:t≠e):∀k,v.ownBlock=some k->k≠b:=by
 intro k hv;rcases h.2 with⟨rfl,_⟩ | ⟨g,O,u,rfl,_,V,_⟩;{simp[Value.ownBlock]at hv};{simp[Value.ownBlock]at hv;subst hv;exact(Kd.ne hk ⟨u,V⟩ J).symm}
structure Els (w:zw) (a:Option Addr) (b o z n c:Nat) (f:Nat->Nat->Value):Prop where
 addr:0<n->a=some ⟨b,o,none⟩
 rd:Rd w b o (n*z) (elz z f)
 cap:n≤c
 max:c≤9223372036854775807
theorem Els.later{b o c:Nat}(h:Els w a b o z n c f)(u:Below w w w'):Els w' a b o z n c f:=⟨h.addr,h.rd.later u,h.cap,h.max⟩
theorem Els.upd{b o c:Nat}(h:Els w a b o z n c f)(u:Upd G w w')(J:0<n*z->¬G b):Els w' a b o z n c f:=⟨h.addr,h.rd.upd u J,h.cap,h.max⟩
theorem Els.at{b o c:Nat}(h:Els w a b o z n c f){k j:Nat}(hk:k<n)(u:j<z):w.cell? (b,o+(k*z+j))=some (f k j):=by
 rw[h.rd (k*z+j) (zBK hk u),zBV _ _ _ u]
theorem Vz.shape(h:Vz w base e z v n f):∃a b c,v=.slice a n c∧Els w a b 0 z n c f∧(∀k,v.ownBlock=some k->k=b)∧(0<n->base≤b)∧(v.ownBlock=none->v=.slice none 0 0):=by
 obtain⟨hl,h⟩:=h;rcases h with⟨rfl,rfl⟩ | ⟨g,J,u,rfl,hb,hg,O,Z,hs,ht⟩;{exact⟨none,0,0,rfl,⟨fun h=>absurd h zo,by rw[yAZ];exact Rd.empty _ _ _ _,yb _,zo⟩,by simp[Value.ownBlock],fun h=>absurd h zo,fun _=>rfl⟩};{refine⟨_,g,J,rfl,⟨fun _=>rfl,fun i hi=>?_,O,by unfold maxLen at Z;omega⟩,by simp[Value.ownBlock],fun _=>hb,by simp[Value.ownBlock]⟩;simp only[World.cell?,hg,yc];have:u.toList[i]? =some (elz z f i):=(by have V:(u.toList.take (n*z))[i]? =((List.range (n*z)).map (elz z f))[i]? :=(by rw[ht]);rw[yAu,yq zo]at V;rw[V];simp[hi]);simpa using this}
end
section
variable {P:Program}
theorem zAc{a:Act}(a7:o.guard=none)(s x:Operand)(t:TypeId)
  (ho:o.op=.call {callee:=.builtin .append,args:=#[s,x],argTypes:=#[t,t]})
  (base:Nat)(e:TypeId)(zr:Value)(z J:Nat)(ht:P.underlying t=some (.slice e))(O:(P.info? e).map (fun i=>(i.zero,i.size,i.bytes))=some (some zr,z,J))(a4:zr.cells.size=z)(a1:0<z)
  (v:Value)(n:Nat)(f:Nat->Nat->Value)(hs:a.eval s=v)(Z:Vz w base e z v n f)(u:Array Value)(hu:u.size=z)(tu:TypeId)(hx:a.eval x=.slice w 1 1)(h1:∀y∈u.toList,y.oneCell'=true)
  (a3:n+1≤1099511627776)(a5:J≤64)(a2:base≤w.heap.size)
  (h:∀v' w',Vz w' base e z v' (n+1) (fun i j=>if i<n then f i j else u.getD j (.bool false))->Upd (fun b=>some b=v.ownBlock) w w'->wpList P a0 Q rest (a.put o.dst v') w'):wpList P a0 Q (o::rest) a (w.alloc (.cells u tu)):=by
 obtain⟨i,hi,hz,a6,hb⟩:=info_parts O;refine wpList_append_own _ a7 s x t ho base e i zr z J ht hi hz a6 hb a4 a1 v n _ hs (Z.alloc _) ⟨w.heap.size,0,none⟩ 1 1 u.toList hx (by simpa using hu) ?_ h1 (by unfold maxLen;omega) ?_ (by rw[Deep.nblk_alloc];omega) ?_;{intro j y hj;rw[zBB,zBO,yc];simpa using hj}
 ·calc (n+1)*J≤1099511627776*64:=yAJ a3 a5
   _≤_:=zo
 {intro v' w' hv hg _;have V:(List.range ((n+1)*z)).map (elz z fun i j=>if i<n then f i j else u.getD j (.bool false))=(List.range (n*z)).map (elz z f)++u.toList:=(by rw[show(n+1)*z=n*z+z by rw[Nat.add_mul];omega,List.range_add,yP];congr 1;{refine yY fun i hi=>?_;have a8:i<n*z:=(by simpa using hi);show(if i / z<n then f (i / z) (i % z)else _)=f (i / z) (i % z);rw[yq (Nat.div_lt_of_lt_mul (by rwa[yAW]))]};{refine List.ext_getElem? fun j=>?_;by_cases hj:j<z;{have h2:j<u.size:=zo;simp[hj,zBV,h2]};{simp[hj,show u.size≤j by omega]}});refine h v' w' (by unfold Vz;rw[V];exact hv) ?_;exact((Upd.refl _ w).alloc _).trans (Upd.of_grown hg) fun b hb _=>hb}
end
end Go.Proofs.YtonfdlhikinldaaGreatDoor
namespace Go.Proofs.YtonfdlhikinldaaGreatDoor
open Go Go.RowKit Go.Proofs Go.Maps Go.Proofs.Tryz
theorem zLq:Keyed prog 3:=int_keyed underlying3
theorem zSr(w:zw):(zeroValue 3).run prog w=.ok (.int .i64 0) w:=by kernel_rfl
theorem zPI(x:Nat)(h:x<9223372036854775808):(Lit.int .i64 (x:Int)).wf=true:=by
 simp[Lit.wf,IntKind.min,IntKind.max,IntKind.signed,IntKind.bits];omega
abbrev MP(w:zw)(mb n:Nat)(D:DataW Unit):Prop:=w.ownsMap prog 3 (plainElem prog 3) mb n D
def UM(w:zw)(mb n:Nat)(l:List Nat):Prop:=
 ∃D:DataW Unit,MP w mb n D∧(∀x:Nat,D.atKey (.int .i64 x) (.lit (.int .i64 0))=.lit (.int .i64 (l.count x:Nat)))∧(∀u,Maps.has D u=true->∃x:Nat,u=.int .i64 x∧x∈l)∧(∀x∈l,x<9223372036854775808)∧l.length≤n
section
variable {w w':zw} {mb n:Nat} {l:List Nat}
theorem UM.lt(h:UM w mb n l):mb<w.heap.size:=by
 obtain⟨D,h,_⟩:=h;exact h.lt
theorem UM.of_block(h:UM w mb n l)(e:w'.heap[mb]? =w.heap[mb]?):UM w' mb n l:=by
 obtain⟨D,⟨O,c,J,u⟩,V⟩:=h;exact⟨D,⟨O,c,e.trans J,u⟩,V⟩
theorem UM.upd{X:Nat->Prop}(h:UM w mb n l)(J:Upd X w w')(u:¬X mb):UM w' mb n l:=h.of_block (J.block mb h.lt u)
theorem UM.later(h:UM w mb n l)(u:Below w w w'):UM w' mb n l:=h.of_block (u.block mb h.lt)
theorem UM.qd(h:UM w mb n l){t:Nat}:¬Kd w mb t:=by
 obtain⟨D,⟨J,c,u,_⟩,_⟩:=h;rintro⟨cs,hk⟩;rw[u]at hk;cases hk
theorem UM.made(w:zw):UM (w.alloc (.map #[] 0)) w 0 []:=
 ⟨.map [],World.ownsMap_made _ _ _ _,fun x=>rfl,fun J h=>by simp[Maps.has]at h,fun x u=>absurd u zs,yb _⟩
theorem UM.look(h:UM w mb n l)(x:Nat)(Z:x<9223372036854775808):(Instr.lookup 236 (.map (some mb)) (.int .i64 (x:Int)) false).run prog w=.ok (.int .i64 (l.count x:Nat)) w:=by
 obtain⟨D,V,O,_⟩:=h;obtain⟨c,J,u,_⟩:=V.lookup_int zLq underlying236 underlying3 (zSr w) (keyOf_int_mk underlying3 (zPI x Z));rw[O x]at u;injection u with u;injection u with _ u;rw[J,u]
theorem UM.put(h:UM w mb n l)(hn:n<1000000000)(x:Nat)(hx:x<9223372036854775808):∃w',(Instr.mapUpdate 236 (.map (some mb)) (.int .i64 (x:Int)) (.int .i64 ((l.count x:Nat)+1))).run prog w=.ok () w'∧UM w' mb (n+1) (x::l)∧Upd (· =mb) w w':=by
 obtain⟨D,h1,h2,h3,h4,h5⟩:=h;have hc:l.count x<1000000000:=yBk List.count_le_length zo;have hw:(Lit.int .i64 ((l.count x:Nat)+1:Int)).wf=true:=zPI (l.count x+1) zo;have V:=h1.isMap;obtain⟨w',O,u,hg⟩:=h1.update zLq underlying236 (by unfold maxLen;omega) (keyOf_int_mk underlying3 (zPI x hx)) (plainElem_int underlying3 hw);refine⟨w',O,⟨_,u,fun y=>?_,fun Z hk=>?_,fun y J=>?_,by simp;omega⟩,(Upd.of_grown hg).mono fun b _ e=>yBh e⟩;{by_cases e:y=x;{subst e;rw[atKey_put_same (k:=.int .i64 (y:Int)) V yAf,List.count_cons_self];rfl};{rw[atKey_put_other (fun h=>e (Int.ofNat_inj.1 (Lit.int.inj h).2)),h2 y,List.count_cons_of_ne (fun h=>e h.symm)]}};{by_cases e:Z=.int .i64 (x:Int);{exact⟨x,e,yAc ..⟩};{rw[has_put_other e]at hk;obtain⟨y,J,hm⟩:=h3 Z hk;exact⟨y,J,yU _ hm⟩}};{rcases List.mem_cons.1 J with rfl | J;{exact hx};{exact h4 y J}}
end
end Go.Proofs.YtonfdlhikinldaaGreatDoor
namespace Go.Proofs.YtonfdlhikinldaaGreatDoor
open Go Go.RowKit Go.Proofs Lin Go.Proofs.Tryz
theorem zLi(a Z:Option Addr)(b o b' o' n J c c':Nat)(x y:Nat->UInt8)(w:zw)
  (ha:0<n->a=some ⟨b,o,none⟩)(V:0<J->Z=some ⟨b',o',none⟩)(hx:Rd w b o n (bs x))(hy:Rd w b' o' J (bs y))(hn:n≤9223372036854775807)(a0:J≤9223372036854775807):
  Calls prog 19 #[.slice a n c,.slice Z J c'] w fun e w'=>e=.returned (.bool (zGj n J x y))∧∃k,w'=w.drewN k:=by
 have HX:=zz hx;have HY:=zz hy;clear hx hy;by_cases O:n=J;{subst O;go_enter func19,ntmps19;go_wp2;go_loopw [5] (fun i wr=>∃k q:Nat,k≤n∧i=I k∧zHP x y k∧wr=w.drewN q) (fun i _=>n - (intOf i).toNat);(case atStart=>exact⟨0,0,zo,rfl,fun i hi=>absurd hi zo,rfl⟩);(case round=>obtain⟨k,q,hk,rfl,hs,rfl⟩:=hrel;have HS:=zz hs;clear hs;by_cases u:k<n;{obtain rfl:=ha zo;obtain rfl:=V zo;have c1:=HX.o k u;have c2:=HY.o k u;go_wp2;go_quiet (fail);go_wp2;{go_ret;exact⟨zIL (zQp u (zSe ‹_›)).symm,q+nq,World.drewN_drewN _ _ _⟩};{go_roundw;(case rel=>exact⟨k+1,q+nq,zo,by go_num,zKf HS.o (zSf ‹_›),rfl⟩);(case measure=>simp[intOf];omega)}};{go_wp2;go_ret;obtain rfl:k=n:=zo;exact⟨zIL (zJl HS.o).symm,_,rfl⟩})};{go_enter func19,ntmps19;go_wp2;go_ret;exact⟨zIL (zO1 O).symm,0,rfl⟩}
theorem zOs(a:Option Addr)(b o n c:Nat)(x:Nat->UInt8)(w:zw)
  (ha:0<n->a=some ⟨b,o,none⟩)(hx:Rd w b o n (bs x))(hn:n≤100000)(hc:n≤c):
  Calls prog 33 #[.slice a n c] w fun e w'=>e=.returned (.slice w n (n+2))∧
   Below w w w'∧w'.heap.size=w.heap.size+1∧Row w' w 0 (n+2) (bs (zFE n x))∧Kd w' w 5:=by
 have HX:=zz hx;clear hx;have Z:=zA2 ((n:Int)+2) zo zo;have et:((n:Int)+2).toNat=n+2:=zo;rw[et]at Z;clear et;go_enter func33,ntmps33;go_wp2_with (refine zCQ rfl (.tmp 10) (.tmp 11) 31 31 rfl 5 underlying31 zE2 _ _ _ _ _ _ rfl rfl n w 0 (n+2) b o (fun _=>.int .u8 0) (bs x) (by show n=min n (n+2);omega) zo (Row.new _ _ _ _) (HX.o.alloc _) (fun _=>rfl) ha (fun _ _=>rfl) ?_;intro w1 V O J u;have HK:=zz (J _ 5 (Kd.new w _ _));clear J;have c1:=u.cell n zo;have f1:=u.free n zo;have c2:=u.cell (n+1) zo;have f2:=u.free (n+1) zo;simp only[yc]at c1 c2 f1 f2;have HR:=zz u;have HU:=zz V;have HZ:=zz O;clear u V O);go_ret;exact⟨rfl,zMs HU.o HZ.o HR.o HK.o rfl⟩
theorem zOt(a:Option Addr)(g b o n c:Nat)(x:Nat->UInt8)(w:zw)
  (ha:0<n->a=some ⟨b,o,none⟩)(hx:Rd w b o n (bs x))(O:Row w g 0 (n+2) (bs (zFE n x)))(hn:n≤100000):
  Calls prog 35 #[.slice g n (n+2),.slice a n c] w fun e w'=>e=.returned (.bool true)∧Upd (· =g) w w'∧zO w w':=by
 have HX:=zz hx;have HR:=zz O;have J:=zz (fun w (hx:Rd w b o n (bs x)) (O:Rd w g 0 n (bs (zFE n x)))=>(zLi (zp g) a g 0 b o n n (n+2) c (zFE n x) x w (fun _=>rfl) ha O hx zo zo));have V:=zy (zGj n n (zFE n x) x=true) (zJl fun i hi=>by simp[zFE,hi]);have c1:w.cell? (g,n)=some (.int .u8 71):=(by have:=O.cell n zo;simp[zFE,bs]at this;exact this);have c2:w.cell? (g,n+1)=some (.int .u8 72):=(by have:=O.cell (n+1) zo;simp[zFE,bs,show ¬n+1<n by omega]at this;exact this);clear hx O ha;go_enter func35,ntmps35;go_wp2_with (go_at_call 19;refine(J.o _ ?h1 ?h2).mono ?_;exact HX.o;exact HR.o.rd.take zo;rw[V.o];rintro e w' ⟨rfl,q,rfl⟩);go_loopw [8] (fun i wr=>∃k:Nat,k≤n+2∧i=I k∧Upd (· =g) w wr∧zO w wr∧∃z,Row wr g 0 (n+2) (bs z)) (fun i _=>n+2 - (intOf i).toNat);(case atStart=>exact⟨0,zo,rfl,(Upd.refl _ _).drewN _,(zO.refl _).drewN _,_,HR.o.drewN _⟩);(case round=>obtain⟨k,hk,rfl,hu,a0,z,hz⟩:=hrel;have HU:=zz hu;have Z:=zz a0;clear a0;have HZ:=zz hz;clear hu hz;by_cases u:k<n+2;{have d1:=HZ.o.cell k u;have d2:=HZ.o.free k u;simp only[yc]at d1 d2;go_wp2;go_roundw;(case rel=>exact⟨k+1,zo,by go_num,HU.o.setCell (fun _=>rfl) _,Z.o.set _ _,_,Row.zj HZ.o u (z k^^^85) (zTP (z k) 85)⟩);(case measure=>simp[intOf];omega)};{go_wp2;go_ret;exact⟨rfl,HU.o,Z.o⟩})
end Go.Proofs.YtonfdlhikinldaaGreatDoor
