import Derived.Test.YtonfdlhikinldaaGreatDoorBu24
import Derived.Test.YtonfdlhikinldaaGreatDoorBu25
import Derived.Maps.OwnSet
import Derived.DeepKeys4
set_option maxRecDepth 100000
set_option linter.all false
set_option linter.unusedVariables false
set_option maxHeartbeats 16000000
namespace Go.Proofs.YtonfdlhikinldaaGreatDoor
open Go Go.RowKit Go.Proofs Lin Go.Proofs.Tryz
theorem zSA:(match prog.underlying 113 with | some (.array _ _) | some (.struct _)=>true | _=>false)=true:=by rw[underlying113]
theorem zLU:prog.cellsOf 113=1:=by kernel_rfl
def zGe(x:Nat):Lit:=.string (keyBytes [.int .u64 x])
theorem zSB(x:Nat):(Value.agg #[U64 x]).formed prog 113=true:=by simp[Value.formed,underlying113,zLU]
theorem zJG:Maps.Keyed prog 113:=Maps.Keyed.of_law (deep_law_laid zTf (m:=2) zo (yAV zk) zk zSA)
theorem zJH(x:Nat)(Z:x<2^64):keyOf prog 113 (.agg #[U64 x])=some (zGe x):=by
 have hk:prog.keyType 113=true:=(by kernel_rfl);have J:(Lit.int .u64 (x:Int)).wf=true:=(by simp[Lit.wf,IntKind.min,IntKind.max,IntKind.signed,IntKind.bits];omega);unfold keyOf;rw[underlying113];simp only[hk,zSB,Bool.and_self,yBa];have hs:prog.underlying 111=some (.int .u64):=(by kernel_rfl);have hc:prog.cellsOf 111=1:=(by kernel_rfl);have V:1≤prog.types.size:=yAV zk;obtain⟨n,O⟩:∃n,prog.types.size+1=n+2:=⟨prog.types.size - 1,zo⟩;rw[O,show(Value.agg #[U64 x]).cells.toList=[U64 x]from rfl];have u:∀n,prog.keyLits (n+1) 111 [U64 x]=some [.int .u64 x]:=fun n=>(by unfold Program.keyLits;rw[hs];simp[J]);unfold Program.keyLits;rw[underlying113];dsimp only;rw[yq ⟨by rw[zLU];rfl,zs⟩];simp[hc,u,zGe]
theorem zQQ{x y:Nat}(J:x<2^64)(u:y<2^64)(h:zGe x=zGe y):x=y:=by
 have e:=(zJG.inj (zJH x J) (h▸zJH y u):(.agg #[U64 x]:Value)=.agg #[U64 y]);simp at e;exact_mod_cast e
def zM2(b:Nat):DataW Unit:=.lit (.int .i64 ((b:Int)+1))
def zSC:DataW Unit:=.lit (.int .i64 0)
def zCn(v:Value):Option (DataW Unit × List MemPlace):=
 match v with
 | .pointer none=>some (zSC,[])
 | .pointer (some ⟨b,0,none⟩)=>some (zM2 b,[])
 | _=>none
theorem zKR{v:Value}{b:Nat}{u:List MemPlace}(h:zCn v=some (zM2 b,u)):v=.pointer (zp b):=by
 unfold zCn at h;split at h;{simp[zSC,zM2]at h;omega};{rename_i c;simp[zM2]at h;rw[show c=b by omega]};{cases h}
theorem zJI:zCn (.pointer none)=some (zSC,[]):=rfl
theorem zKS(b:Nat):zCn (.pointer (zp b))=some (zM2 b,[]):=rfl
theorem zSD(w:zw):(zeroValue 169).run prog w=.ok (.pointer none) w:=by kernel_rfl
theorem zES{α:Type} [DecidableEq α]:∀(l L:List α),l.Nodup->(∀x∈l,x∈L)->l.length≤L.length
 | [],L,_,_=>yAO _
 | a::l,L,hn,hs=>by
  have u:=List.nodup_cons.1 hn;have J:=hs a (yAc ..);have:=zES l (L.erase a) u.2 fun x O=>(List.mem_erase_of_ne (fun e:x=a=>u.1 (by rw[<-e];exact O))).2 (hs x (yU _ O));rw[List.length_erase_of_mem J]at this;have:=List.length_pos_of_mem J;simp only[yF];omega
def zAp(w:zw)(mb:Nat)(E:List Nat)(Q:Nat->Nat):Prop:=
 ∃l:List (Lit × DataW Unit),w.ownsMap prog 113 zCn mb 65536 (.map l)∧∀p∈l,∃x e,x<2^16∧p.1=zGe x∧p.2=zM2 e∧e∈E∧Q e=x
theorem zET{w w':zw}{b:Nat}(h:w.mapTurned w' b):Upd (· =b) w w':=by
 obtain⟨O,c,J,Z,V,rfl⟩:=h;refine⟨rfl,rfl,rfl,by simp[Go.ChangeMaps.setBlock],fun k hk u=>?_⟩;simp only[Go.ChangeMaps.setBlock,yAN];rw[yl (fun e=>u e.symm)]
section
variable {w w':zw} {mb:Nat} {E E':List Nat} {Q Q':Nat->Nat}
theorem zAp.lt(h:zAp w mb E Q):mb<w.heap.size:=by
 obtain⟨l,h,_⟩:=h;exact h.lt
theorem zAp.of_block(h:zAp w mb E Q)(e:w'.heap[mb]? =w.heap[mb]?):zAp w' mb E Q:=by
 obtain⟨l,⟨O,c,J,u⟩,V⟩:=h;exact⟨l,⟨O,c,e.trans J,u⟩,V⟩
theorem zAp.upd{X:Nat->Prop}(h:zAp w mb E Q)(J:Upd X w w')(u:¬X mb):zAp w' mb E Q:=h.of_block (J.block mb h.lt u)
theorem zAp.later(h:zAp w mb E Q)(u:Below w w w'):zAp w' mb E Q:=h.of_block (u.block mb h.lt)
theorem zAp.mono(h:zAp w mb E Q)(u:∀e∈E,e∈E'∧Q' e=Q e):zAp w mb E' Q':=by
 obtain⟨l,V,O⟩:=h;refine⟨l,V,fun p hp=>?_⟩;obtain⟨x,e,Z,q2,q3,J,q5⟩:=O p hp;exact⟨x,e,Z,q2,q3,(u e J).1,(u e J).2.trans q5⟩
theorem zAp.qd(h:zAp w mb E Q){t:Nat}:¬Kd w mb t:=by
 obtain⟨l,⟨J,c,u,_⟩,_⟩:=h;rintro⟨cs,hk⟩;rw[u]at hk;cases hk
theorem zH6:prog.underlying 168=some (.map 113 169):=underlying168
theorem zAp.look(h:zAp w mb E Q)(x:Nat)(hx:x<2^64):(∃e,e∈E∧Q e=x∧∀n,(Instr.lookup 168 (.map (some mb)) (.agg #[U64 x]) true).run prog (w.drewN n)=.ok (.tuple #[.pointer (zp e),.bool true]) (w.drewN n))∨
  ∀n,(Instr.lookup 168 (.map (some mb)) (.agg #[U64 x]) true).run prog (w.drewN n)=.ok (.tuple #[.pointer none,.bool false]) (w.drewN n):=by
 obtain⟨l,h1,h2⟩:=h;have hk:=fun n=>(show(w.drewN n).ownsMap prog 113 zCn mb 65536 (.map l)from h1).look_ok zJG zH6 (zSD _) zJI (zJH x hx);(cases O:Maps.has (DataW.map l) (zGe x)with |true=>(have ha:∃p∈l,p.1=zGe x∧(DataW.map l).atKey (zGe x) zSC=p.2:=(by have h3:l.any (fun p=>p.1.sameKey (zGe x))=true:=O;unfold DataW.atKey;dsimp only;(cases V:l.find? (fun p=>p.1.sameKey (zGe x))with |none=>(rw[List.find?_eq_none]at V;obtain⟨p,hp,hs⟩:=List.any_eq_true.1 h3;exact absurd hs (V p hp))|some p=>(refine⟨p,List.mem_of_find?_eq_some V,?_,rfl⟩;have hs:=List.find?_some V;exact Classical.byContradiction fun Z=>(by rw[Maps.sameKey_ne Z]at hs;cases hs))));obtain⟨p,hp,e1,e2⟩:=ha;obtain⟨x',e,q1,q2,q3,q4,q5⟩:=h2 p hp;have ex:=zQQ zo hx (q2.symm.trans e1);subst ex;refine .inl ⟨e,q4,q5,fun n=>?_⟩;obtain⟨v,ps,J,u⟩:=hk n;rw[e2,q3]at u;rw[O,zKR u]at J;exact J)|false=>(refine .inr fun n=>?_;obtain⟨v,ps,J,u⟩:=hk n;rw[O]at J;have ha:(DataW.map l).atKey (zGe x) zSC=zSC:=Maps.atKey_of_not_has O _;rw[ha]at u;have hv:v=.pointer none:=(by unfold zCn at u;split at u;{rfl};{simp[zM2,zSC]at u;omega};{cases u});rw[hv]at J;exact J))
theorem zAp.len(h:zAp w mb E Q)(u:TypeId):∃s:Nat,∀n,(Builtin.len_ #[168] u #[.map (some mb)]).run prog (w.drewN n)=.ok (I s) (w.drewN n):=by
 obtain⟨l,J,_⟩:=h;exact⟨Maps.size (DataW.map l),fun n=>(show(w.drewN n).ownsMap prog 113 zCn mb 65536 (.map l)from J).len zH6 u⟩
theorem zOV{x p:Lit × DataW Unit}:∀{l:List (Lit × DataW Unit)},p∈DataW.insert x l->p=x∨p∈l
 | [],h=>by simp[DataW.insert]at h;exact .inl h
 | y::r,h=>by
  unfold DataW.insert at h
  split at h
  ·rcases List.mem_cons.1 h with h | h
   ·exact .inl h
   ·exact .inr h
  ·rcases List.mem_cons.1 h with h | h
   ·exact .inr (h▸yAc ..)
   ·rcases zOV h with h | h
    ·exact .inl h
    ·exact .inr (yU _ h)
theorem zAp.drop(h:zAp w mb E Q)(x:Nat)(Z:x<2^64)(J:TypeId):∃w',(Builtin.delete_ #[168,113] J #[.map (some mb),.agg #[U64 x]]).run prog w=.ok (.tuple #[]) w'∧zAp w' mb E Q∧Upd (· =mb) w w'∧w'.heap.size=w.heap.size:=by
 obtain⟨l,V,O⟩:=h;obtain⟨w',hr,ho,u⟩:=V.drop zJG zH6 (zJH x Z) J;refine⟨w',hr,⟨_,ho,fun p hp=>O p (List.mem_filter.1 hp).1⟩,zET u,?_⟩;obtain⟨_,_,_,_,_,rfl⟩:=u;simp[Go.ChangeMaps.setBlock]
theorem zAp.store(h:zAp w mb E Q)(x e:Nat)(hx:x<2^16)(hE:∀c∈E,c∈E'∧Q' c=Q c)(he:e∈E')(hq:Q' e=x):∃w',(Instr.mapUpdate 168 (.map (some mb)) (.agg #[U64 x]) (.pointer (zp e))).run prog w=.ok () w'∧zAp w' mb E' Q'∧Upd (· =mb) w w'∧w'.heap.size=w.heap.size:=by
 obtain⟨l,h1,h2⟩:=h;obtain⟨w',hr,ho,ht⟩:=h1.store zJG zH6 (by unfold maxLen;omega) (zJH x zo) (zKS e);have hz:w'.heap.size=w.heap.size:=(by obtain⟨_,_,_,_,_,rfl⟩:=ht;simp[Go.ChangeMaps.setBlock]);have Z:∀p∈DataW.insert (zGe x,zM2 e) (l.filter fun p=> !p.1.sameKey (zGe x)),∃x e,x<2^16∧p.1=zGe x∧p.2=zM2 e∧e∈E'∧Q' e=x:=fun p u=>(by rcases zOV u with rfl | u;{exact⟨x,e,hx,rfl,rfl,he,hq⟩};{obtain⟨x',e',q1,O,q3,q4,q5⟩:=h2 p (List.mem_filter.1 u).1;exact⟨x',e',q1,O,q3,(hE e' q4).1,(hE e' q4).2.trans q5⟩});refine⟨w',hr,⟨_,?_,Z⟩,zET ht,hz⟩;have a0:=ho.tidy zJG;obtain⟨es,c,g1,g2,g3,g4⟩:=ho;refine⟨es,c,g1,g2,?_,g4⟩;have e1:(DataW.insert (zGe x,zM2 e) (l.filter fun p=> !p.1.sameKey (zGe x)))=(es.toList.map (Go.WideElems.rg prog 113 zCn)).foldr DataW.insert []:=(by have:=g4;unfold DataW.put at this;simpa using this);have e2:es.size=(DataW.insert (zGe x,zM2 e) (l.filter fun p=> !p.1.sameKey (zGe x))).length:=(by rw[e1,length_read]);rw[e2];obtain⟨L2,V,u⟩:=a0;have J:DataW.insert (zGe x,zM2 e) (l.filter fun p=> !p.1.sameKey (zGe x))=L2:=(by have:=V;unfold DataW.put at this;simpa using this);rw[J]at Z ⊢;haveI:DecidableEq Lit:=fun a b=>Classical.propDecidable (a=b);have hk:=zES (L2.map (·.1)) ((List.range 65536).map zGe) (by rw[List.nodup_iff_pairwise_ne,List.pairwise_map];exact u) (fun k hk=>by obtain⟨p,u,rfl⟩:=List.mem_map.1 hk;obtain⟨x',_,q1,O,_⟩:=Z p u;exact List.mem_map.2 ⟨x',List.mem_range.2 q1,O.symm⟩);rw[yH,yH,List.length_range]at hk;exact hk
end
end Go.Proofs.YtonfdlhikinldaaGreatDoor
