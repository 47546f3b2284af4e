import Derived.Test.YtonfdlhikinldaaGreatDoorBu02
import Derived.RangeFuncNested
set_option maxRecDepth 100000
set_option linter.all false
set_option linter.unusedVariables false
set_option maxHeartbeats 16000000
namespace Go.Proofs.YtonfdlhikinldaaGreatDoor
open Go Go.RowKit Go.Proofs Lin Go.Proofs.Tryz
variable {w:zw}{l:List Oper}{a:Act}{K:Act->World->Prop}
def zCz(o:Oper):Bool:=match o.op with | .defer _=>true | _=>false
section
variable {P:Program} {ops:Array Oper} {Q:Exit->Act->World->Prop} {md:Region.Mode} {lr n:Nat}
theorem zQ0{o:Oper}(h:zCz o=false):∀c,o.op≠.defer c:=by
 intro c e;simp[zCz,e]at h
def zIR(Q:Exit->Act->World->Prop):Exit->Act->World->Prop:=fun e a w=>(∀c,e≠.panic c)∧Q e a w
theorem zAU{c:Code}(h:c.wp P (zIR Q) a w):c.wp P Q a w:=wp_mono h fun _ _ _ h=>h.2
theorem zAW:∀c a d v w,zIR Q (.panic c) (Act.put a d v) w->zIR Q (.panic c) a w:=fun c _ _ _ _ h=>absurd rfl (h.1 c)
theorem zV(h:Q .normal a w):zIR Q .normal a w:=⟨(fun c e=>by cases e),h⟩
theorem zKp{u:String}{args:Array Value}{R:Value->World->Prop}(h:Rows P u args w R):RowsIn (Fence.wide.inRound lr) n P u args w R:=
 fun c cs _=>let⟨v,w',r,s⟩:=h c cs;⟨v,w',r,stepsIn_wide.2 s⟩
theorem zE8{o:Oper}(u:zCz o=false)(h:o.wp P a w K Q):o.wpIn (Fence.wide.inRound lr) n P a w K Q:=by
 refine⟨fun _ _=>yAf,?_⟩;rw[Oper.semAt_eq _ _ _ (zQ0 u)];unfold Oper.wp at h;generalize(execOp a.eval o).run P w=r at *;(cases r with |ok x w'=>((cases x with |value v=>(exact h)|skip=>(exact h)|defer d=>(exact h)|enter f args=>(exact⟨(fun e=>by cases e),CallsIn.inRound lr (callsIn_wide.2 (by unfold Oper.upon at h;exact h))⟩)|row r args=>(exact⟨(fun e=>by cases e),zKp (by unfold Oper.upon at h;exact h)⟩)|_=>(exact h.elim)))|halt x w'=>(cases x<;>first | exact h | exact h.elim))
theorem zGo(Z:∀(i:Nat) (o:Oper),ops[i]? =some o->zCz o=false)(hQ:¬LetsOut Q)(ha:∀(o:Oper) (f:FuncId) (a:Act) (w:zw),o.about P w a.eval=some f->(Fence.wide.inRound lr).fn f:=fun _ _ _ _ _=>yAf){i:Nat}{K V:Act->World->Prop}(u:∀a w,K a w->V a w)
  (h:wpOp P ops Q i K a w):wpOpIn (Fence.wide.inRound lr) n P ops Q i V a w:=by
 unfold wpOp at h;unfold wpOpIn;(cases J:ops[i]? with |none=>(simp only[J]at h;exact u _ _ h)|some o=>(simp only[J]at h ⊢;by_cases O:Region.wanted o (yielded ops a.tmps)=true;{simp only[O,yBa]at h ⊢;rcases h with h | h;{exact Oper.wpIn_mono u (zE8 (Z i o J) h)};{exact absurd h.2 hQ}};{simp only[O]at h ⊢;exact⟨fun _ _=>yAf,u _ _ h⟩}))
theorem zBU(J:∀(i:Nat) (o:Oper),ops[i]? =some o->zCz o=false)(O:¬LetsOut Q):∀(g:Nat) (u:Array Bool) (a:Act) (w:zw),wpAny P md ops Q g u a w->wpAnyIn (Fence.wide.inRound lr) n P md ops Q g u a w
 | 0,_,_,_,h=>h
 | g+1,_,_,_,h=>⟨h.1,fun i Z=>zGo J O (fun _ _ _ _ _=>yAf) (fun V w' h'=>zBU J O g _ V w' h') (h.2 i Z)⟩
theorem zDR(h:l.all (fun o=> !zCz o)=true):∀(i:Nat) (o:Oper),l.toArray[i]? =some o->zCz o=false:=fun i o u=>by
 have:=List.all_eq_true.1 h o (by
  have:l[i]? =some o:=by simpa using u
  exact List.mem_of_getElem? this)
 simpa using this
theorem zAZ(J:¬LetsOut Q):∀(l:List Oper) (a:Act) (w:zw),l.all (fun o=> !zCz o)=true->wpList P ops Q l a w->wpListIn (Fence.wide.inRound lr) n P ops Q l a w
 | [],_,_,_,h=>h
 | o::l,a,w,hd,h=>by
  simp only[List.all_cons,yD]at hd;have u:zCz o=false:=by simpa using hd.1
  unfold wpList at h;unfold wpListIn;by_cases O:Region.wanted o (yielded ops a.tmps)=true
  ·rw[yq O]at h ⊢;rcases h with h | h
   ·exact Oper.wpIn_mono (fun V w' h'=>zAZ J l V w' hd.2 h') (zE8 u h)
   ·exact absurd h.2 J
  ·rw[yl O]at h ⊢;exact⟨fun _ _=>yAf,zAZ J l _ w hd.2 h⟩
theorem zCu{id:Nat}(m:Nat)(S:World->Prop)(hm:P.follows .mixedOrders=true)(hd:l.all (fun o=> !zCz o)=true)(u:¬LetsOut Q)(J:zDI .any l.toArray m=true)(hr:(l.take m).all zCb=true)
  (V:∀c a d v w,Q (.panic c) (Act.put a d v) w->Q (.panic c) a w)(Z:S w.drew)
  (h:wpQuiet P l.toArray S (fun O=>wpOp P l.toArray Q m (fun a2 w2=>S w2∧wpList P l.toArray Q (l.drop (m+1)) a2 w2) O w.drew) (l.take m) a):
  (Code.region id l.toArray true).wpIn (Fence.wide.inRound lr) n P Q a w:=
 wpIn_region_any hm (zBU (zDR hd) u _ _ _ _ (zB2 m J Z V (zAO _ _ hr h)))
end
def zFx(T:Array Bool->Bool)(md:Region.Mode)(u:Array Oper):Nat->Nat->Array Bool->Bool
 | 0,k,listed=>decide (Region.ready md u listed=[k])&&T (listed.setIfInBounds k true)
 | f+1,k,listed=>(Region.ready md u listed).contains k&&Region.free md u listed k&&zFx T md u f (k+1) (listed.setIfInBounds k true)
def zHy(md:Region.Mode)(J:Array Oper)(m:Nat)(u:Array Bool):Bool:=
 (Region.ready md J u).all (fun j=>decide (m≤j))&&Region.lexFrom md J (J.size - m) m u
def zLN(md:Region.Mode)(u:Array Oper)(n:Nat):Bool:=
 (List.range u.size).all fun t=>decide (t≤n)||(List.range u.size).any fun j=>decide (n≤j)&&Region.waitsFor md u t j
def zFK(md:Region.Mode)(u:Array Oper)(m:Nat):Bool:=
 Region.noSelect u&&decide (m+1<u.size)&&Region.sinkB md u (m+1)&&zLN md u (m+1)&&zFx (zHy md u (m+1)) md u m 0 (Array.replicate u.size false)
section
variable {P:Program} {ops:Array Oper} {Q:Exit->Act->World->Prop} {md:Region.Mode} {S:World->Prop} {lr n:Nat}
theorem zFy{n:Nat}{u:Array Bool}(hs:Region.sinkB md ops n=true)(hc:zLN md ops n=true)(hn:n<ops.size)(inv:HeadInv md ops n u):
  ∀(d i:Nat),n - i=d->i<n->u.getD i true=false->∀t,n≤t->t∉Region.ready md ops u:=by
 intro d;(induction d using Nat.strongRecOn with |_ d ih=>(intro i hd hi Z t ht hr;obtain⟨_,ot,a0,a1⟩:=mem_ready.1 hr;have a2:=(Array.getElem?_eq_some_iff.1 a0).1;have V:∀k,Region.waitsFor md ops t k=true->u.getD k true=false->False:=fun k hw hk=>(by obtain⟨o',a6,e,he,hb,O⟩:=Region.waitsFor_spec hw;obtain rfl:o'=ot:=yBh (a6.symm.trans a0);have h2:=a1 e he hb;rw[O,getD_both hk]at h2;cases h2);by_cases a8:t≤n;{obtain rfl:t=n:=zo;obtain⟨j,hj,J⟩:=List.any_eq_true.1 (List.all_eq_true.1 hs i (List.mem_range.2 hi));simp only[yD,yL]at J;by_cases a7:j=t;{exact V i (a7▸J.2) Z};{have a4:j<t:=(by have:=List.mem_range.1 hj;omega);have a3:u.getD j true=false:=(by refine getD_in (by rw[inv.size];omega) ?_;(cases hl:u.getD j false with |false=>(rfl)|true=>(obtain⟨oj,a5,e,he,hb,O⟩:=Region.waitsFor_spec J.2;have h2:=inv.closed j oj a5 hl e he hb;rw[O,getD_both Z]at h2;cases h2)));exact ih (t - j) zo j rfl a4 a3 t (yb _) hr}};{have h1:=List.all_eq_true.1 hc t (List.mem_range.2 a2);simp only[Bool.or_eq_true,yL]at h1;rcases h1 with h1 | h1;{omega};{obtain⟨j,hj,J⟩:=List.any_eq_true.1 h1;simp only[yD,yL]at J;exact V j J.2 (inv.tail j J.1 (List.mem_range.1 hj))}}))
theorem zGc{i n:Nat}{oi:Oper}{v:Value}{L:Array Bool->Act->World->Prop}(hi:ops[i]? =some oi)(a2:∀(j:Nat) (o:Oper) cs b,ops[j]? =some o->o.op≠.select cs b)
  (hs:Region.sinkB md ops n=true)(hc:zLN md ops n=true)(hn:n<ops.size)(a6:i<n)
  (hQ:∀c a w,Q (.panic c) (a.put oi.dst v) w->Q (.panic c) a w)
  (a3:∀u a w,L u a w->∀j∈Region.ready md ops u,n≤j):
  ∀(f:Nat) (u:Array Bool) (a:Act) (w:zw),HeadInv md ops n u->
   (∀(j:Nat) (oj:Oper),ops[j]? =some oj->j≠i->u.getD j true=false->(∀e∈oj.after,Region.binds md e=true->e.on≠i)->oi.apart ops oj=true)->
   i∈Region.ready md ops u->YieldsIf P ops S oi v a->S w->
   zBF P md ops Q S n L f (u.setIfInBounds i true) (a.put oi.dst v) w->zBF P md ops Q S n L (f+1) u a w:=by
 intro f
 induction f with
 | zero=>
  intro u a w inv _ hr hy hS H;have O:=(mem_ready.1 hr).1;refine⟨fun h=>(by rw[h]at hr;cases hr),fun j hj=>?_⟩;have Z:j<n:=(by rcases Nat.lt_or_ge j n with h | h;{exact h};{exact absurd hj (zFy hs hc hn inv _ i rfl a6 O j h)});refine⟨Z,?_⟩;by_cases J:j=i;{subst J;exact hy.wpOp hi hS ⟨hS,H⟩};{have:=a3 _ _ _ H j (ready_mono hj J);omega}
 | succ f ih=>
  intro u a w inv V hr hy hS H;have O:=(mem_ready.1 hr).1;refine⟨fun h=>(by rw[h]at hr;cases hr),fun j hj=>?_⟩;have Z:j<n:=(by rcases Nat.lt_or_ge j n with h | h;{exact h};{exact absurd hj (zFy hs hc hn inv _ i rfl a6 O j h)});refine⟨Z,?_⟩;by_cases J:j=i;{subst J;exact hy.wpOp hi hS ⟨hS,H⟩}
  ·have h1:=(H.2 j (ready_mono hj J)).2;obtain⟨a1,oj,a4,a5⟩:=mem_ready.1 hj;have a7:∀e∈oj.after,Region.binds md e=true->e.on≠i:=fun e he hb b0=>(by have h1:=a5 e he hb;rw[b0,getD_both O]at h1;cases h1)
   have h2:=wpOp_putIf a4 (V j oj a4 J a1 a7) (fun cs b=>a2 i oi cs b hi) (fun cs b=>a2 j oj cs b a4) hQ hy h1;have a0:∀(k:Nat) (ok:Oper),ops[k]? =some ok->k≠i->(u.setIfInBounds j true).getD k true=false->
     (∀e∈ok.after,Region.binds md e=true->e.on≠i)->oi.apart ops ok=true:=fun k ok hk b1 O a9=>by
    refine V k ok hk b1 ?_ a9;by_cases a8:j=k
    ·subst a8;exact a1
    ·rw[getD_set_ne true a8]at O;exact O
   refine wpOp_mono (fun a' w' h3=>⟨h3.2.1,ih (u.setIfInBounds j true) a' w' (inv.set hj Z) a0 (ready_mono hr (yBo J)) h3.1 h3.2.1 ?_⟩) h2;rw[Array.setIfInBounds_comm _ _ J];exact h3.2.2
theorem zDj{m:Nat}{T:Array Bool->Bool}(hT:∀u,T u=true->∀j∈Region.ready md ops u,m+1≤j)(hS:S w)(O:Region.noSelect ops=true)(hs:Region.sinkB md ops (m+1)=true)(hc:zLN md ops (m+1)=true)(hn:m+1<ops.size)
  (hQ:∀c a d v w,Q (.panic c) (Act.put a d v) w->Q (.panic c) a w):
  ∀(l:List Oper) (k:Nat) (u:Array Bool) (a:Act),(∀j,j<l.length->l[j]? =ops[k+j]?)->k+l.length=m->HeadInv md ops (m+1) u->
  zFx T md ops l.length k u=true->zBp P ops S (fun V=>wpOp P ops Q m (fun a2 w2=>S w2∧K a2 w2) V w) l a->
  zBF P md ops Q S (m+1) (fun J V w'=>T J=true∧K V w') (l.length+1) u a w
 | [],k,u,a,hl,hk,inv,hB,h=>by
  have:k=m:=by simpa using hk
  subst this;simp only[yK,zFx,yD,yL]at hB;have h':wpOp P ops Q k (fun a2 w2=>S w2∧K a2 w2) a w:=h;refine⟨by rw[hB.1];simp,fun i hi=>?_⟩;rw[hB.1]at hi;have a1:i=k:=by simpa using hi
  rw[a1];exact⟨zo,wpOp_mono (fun V w' h2=>⟨h2.1,hB.2,h2.2⟩) h'⟩
 | o::l,k,u,a,hl,hk,inv,hB,h=>by
  have h0:ops[k]? =some o:=by simpa using(hl 0 zs).symm
  simp only[yF,zFx,yD]at hB;obtain⟨⟨hr,hf⟩,a3⟩:=hB;have a0:k<m+1:=by simp only[yF]at hk;omega
  have Z:k∈Region.ready md ops u:=by simpa using hr
  obtain⟨v,hy,hK⟩:=h;exact zGc h0 (Region.noSelect_spec O) hs hc hn a0 (fun c a w=>hQ c a _ _ w) (fun J V w' hL=>hT _ hL.1) (l.length+1) u a w inv (Region.free_spec h0 hf) Z hy hS
   (zDj hT hS O hs hc hn hQ l (k+1) _ _ (fun j hj=>by have:=hl (j+1) (by simp;omega);simpa[yAS,Nat.add_comm 1 j]using this) (by simp only[yF]at hk;omega) (inv.set Z a0) a3 hK)
def zFB(P:Program)(Q:Exit->Act->World->Prop)(u:Array Oper)(l:List Oper)(a:Act)(w:zw):Prop:=wpQuiet P u (fun V=>∃_:Unit,V=w) (fun J=>Q .normal J w) l a
theorem zDk(m:Nat)(hB:zFK md l.toArray m=true)(hS:S w)(hQ:∀c a d v w,Q (.panic c) (Act.put a d v) w->Q (.panic c) a w)
  (h:zBp P l.toArray S (fun a'=>wpOp P l.toArray Q m (fun Z w2=>S w2∧zFB P Q l.toArray (l.drop (m+1)) Z w2) a' w) (l.take m) a):
  wpAny P md l.toArray Q l.toArray.size (Array.replicate l.toArray.size false) a w:=by
 simp only[zFK,yD,yL]at hB;obtain⟨⟨⟨⟨O,hn⟩,hs⟩,hc⟩,a4⟩:=hB;have a7:m+1<l.length:=(by simpa using hn);have J:(l.take m).length=m:=(by simp;omega)
 have a1:(l.drop (m+1)).length=l.toArray.size - (m+1):=zs;have a0:HeadInv md l.toArray (m+1) (Array.replicate l.toArray.size false):=
  ⟨zs,fun j oj _ hl=>(by rw[getD_replicate_false]at hl;cases hl),fun t _ ht=>getD_in (by simpa using ht) (getD_replicate_false _ _)⟩
 have hT:∀u,zHy md l.toArray (m+1) u=true->∀j∈Region.ready md l.toArray u,m+1≤j:=fun u hL j hj=>(by simp only[zHy,yD,yW,yL]at hL;exact hL.1 j hj);have H:=zDj hT (K:=fun Z w2=>zFB P Q l.toArray (l.drop (m+1)) Z w2) hS O hs hc hn hQ (l.take m) 0 _ a (fun j hj=>by have a5:j<m:=(by rw[J]at hj;exact hj);simp[a5]) (by simpa using J) a0 (by rw[J];exact a4) h;have:=zAu (g:=l.toArray.size - (m+1)) (fun u a' w' hL=>by have a3:=hL.1;simp only[zHy,yD]at a3;refine wpAny_of_quiet (C:=fun V=>∃_:Unit,V=w') (Q:=fun Z=>Q .normal Z w') (fun Z w2 a6 hq=>by obtain⟨_,rfl⟩:=a6;exact hq) _ _ _ _ ⟨(),rfl⟩ ?_;have:=wpAnyQ_lex (md:=md) O (l.drop (m+1)) (m+1) u a' (fun j=>by simp[yAv]) (by rw[a1];exact a3.2) hL.2;rwa[a1]at this) _ _ _ _ H;rw[J,show m+1+(l.toArray.size - (m+1))=l.toArray.size by omega]at this;exact this
theorem zDK{id:Nat}(m:Nat)(S:World->Prop)(hm:P.follows .mixedOrders=true)(hd:l.all (fun o=> !zCz o)=true)(u:¬LetsOut Q)(J:zFK .any l.toArray m=true)(hr:(l.take m).all zCb=true)
  (V:∀c a d v w,Q (.panic c) (Act.put a d v) w->Q (.panic c) a w)(Z:S w.drew)
  (h:wpQuiet P l.toArray S (fun O=>wpOp P l.toArray Q m (fun a2 w2=>S w2∧zFB P Q l.toArray (l.drop (m+1)) a2 w2) O w.drew) (l.take m) a):
  (Code.region id l.toArray true).wpIn (Fence.wide.inRound lr) n P Q a w:=
 wpIn_region_any hm (zBU (zDR hd) u _ _ _ _ (zDk m J Z V (zAO _ _ hr h)))
theorem zAS{u:Nat}(m:Nat)(S:World->Prop)(hm:P.follows .mixedOrders=true)(J:zFK .any l.toArray m=true)(hr:(l.take m).all zCb=true)
  (V:∀c a d v w,Q (.panic c) (Act.put a d v) w->Q (.panic c) a w)(hS:S w.drew)
  (h:wpQuiet P l.toArray S (fun Z=>wpOp P l.toArray Q m (fun O w2=>S w2∧zFB P Q l.toArray (l.drop (m+1)) O w2) Z w.drew) (l.take m) a):
  (Code.region u l.toArray true).wp P Q a w:=
 wp_region_any hm (zDk m J hS V (zAO _ _ hr h))
end
end Go.Proofs.YtonfdlhikinldaaGreatDoor
