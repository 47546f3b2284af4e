import Derived.Test.YtonfdlhikinldaaGreatDoorBu16
import Derived.Test.YtonfdlhikinldaaGreatDoorBu08
import Derived.Deep.RegionWith
import Derived.Test.YtonfdlhikinldaaGreatDoorBu01
set_option maxRecDepth 100000
set_option linter.all false
set_option linter.unusedVariables false
set_option maxHeartbeats 16000000
namespace Go.Proofs.YtonfdlhikinldaaGreatDoor
open Go.RowKit Go.Proofs Lin Go.Shelf Go.Proofs.Tryz
theorem zIt(J:zw)(u D L G x:Nat)(v:Value)(β:Nat->Nat)(w:zw)(Z:zAT J w u D L G v β)(O:zA6 D L G)(V:x<2^64):
  Calls prog 124 #[u,U x] w (zOb w D L G x β):=
 (callsIn_wide (n:=3)).1 (zUj Fence.wide 3 yAf yAf yAf yAf yAf rfl (yb _) J u D L G x v β w Z O V)
theorem zAT.later{J w w':zw}{O D L G:Nat}{v:Value}{β:Nat->Nat}(h:zAT J w O D L G v β)(u:Below w w w'):zAT J w' O D L G v β:=
 ⟨h.below.trans (u.mono h.below.size),h.own,h.kd.later u,h.par.later u,h.at3.later u,h.gm.later u⟩
theorem zFh(w0:zw)(V D L G x:Nat)(v:Value)(β:Nat->Nat)(w:zw)(Z:zAT w0 w V D L G v β)(u:zA6 D L G)(hx:x<2^64):
  Calls prog 125 #[V,U x] w fun e w'=>e=.returned (U (x % 2^(D+L+G)))∧Below w w w':=by
 have h1:=u.d1;have h2:=u.d2;have h3:=u.l1;have h4:=u.l2;have h5:=u.g2;have h7:=u.sum;clear u;have a1:=Z.kd.lt;have c0:w.cell? V=some (I D):=Z.par.cell 0 zo;have c1:w.cell? (V,1)=some (I L):=Z.par.cell 1 zo;have c2:w.cell? (V,2)=some (I G):=Z.par.cell 2 zo;clear Z;have O:=zy ((D:Int)+L+(G:Int)=((D+L+G:Nat):Int)) (by simp);obtain⟨N,hN⟩:=zx (D+L+G);rw[<-hN]at O ⊢;have J:N≤16:=zo;go_enter func125,ntmps125;go_wp2_with (go_at_call 8;refine(zAJ D L G zo _).mono ?_;rintro e w1 ⟨rfl,hb⟩;have HB:=zz hb;clear hb;rw[O.o]);go_ret;refine⟨?_,HB.o⟩;have e0:(2:Int)^(D+L+G)=((2^N:Nat):Int):=(by rw[hN];simp);have hp:2^N≤2^16:=yM zo J;have a0:0<2^N:=Nat.pow_pos zo;have e1:IntKind.u64.wrap ((2:Int)^(D+L+G))=((2^N:Nat):Int):=(by rw[e0];exact zAi _ (yAG _) zo);have e2:IntKind.u64.wrap (IntKind.u64.wrap ((2:Int)^(D+L+G)) - 1)=((2^N - 1:Nat):Int):=(by rw[e1,<-Int.ofNat_one,<-Int.ofNat_sub zo];exact zAi _ (yAG _) zo);have e3:bits BinOp.and IntKind.u64 (x:Int) ((2^N - 1:Nat):Int)=((x % 2^N:Nat):Int):=(by rw[zB8 _ _ hx zo,Nat.and_two_pow_sub_one_eq_mod]);show Ending.returned (.int .u64 (bits BinOp.and IntKind.u64 (x:Int) (IntKind.u64.wrap (IntKind.u64.wrap ((2:Int)^(D+L+G)) - 1))))=_;rw[e2,e3]
theorem zNe(x:Nat)(J:x<2^64):bits BinOp.xor IntKind.u64 IntKind.u64.max (x:Int)=((2^64 - (x+1):Nat):Int):=by
 have O:(IntKind.u64.max:Int)=((2^64 - 1:Nat):Int):=zd;have u:(2^64 - 1)^^^x=2^64 - (x+1):=(by apply yBF;intro i;rw[Nat.testBit_xor,Nat.testBit_two_pow_sub_one,Nat.testBit_two_pow_sub_succ J];by_cases h:i<64;{simp[h]};{have:x.testBit i=false:=yBy (yI J (yM zo zo));simp[h,this]});show IntKind.u64.wrap ((BitVec.ofInt 64 IntKind.u64.max^^^BitVec.ofInt 64 (x:Int)).toNat:Int)=_;rw[O,BitVec.toNat_xor,ofInt_u64 _ zo,ofInt_u64 x zo,u];exact zAi _ (yAG _) zo
theorem zNf{n:Nat}{p q:Nat->Bool}(h:∀i,i<n->p i=q i):sel n p=sel n q:=by
 unfold sel;exact List.filter_congr fun i u=>h i (by simpa using u)
def left(N x:Nat):List Nat:=sel N fun i=> !x.testBit i
theorem zNg{N x:Nat}(O:N≤16)(u:x<2^64):sel N ((2^64 - (x+1)) % 2^N).testBit=left N x:=by
 refine zNf fun i J=>?_;rw[Nat.testBit_mod_two_pow,Nat.testBit_two_pow_sub_succ u];simp[J];omega
def zDf(D:Nat)(M:Mat)(l:List Nat):Nat->Sl:=fun t=>⟨none,0,0,D,D,M (l.getD t 0)⟩
def zEG(D:Nat)(M:Mat)(l:List Nat):Int:=zFD l.length (zDf D M l)
def zEi(D L G x:Nat):Bool:=zEG D (zN D L) (left (D+L+G) x)==(D:Int)
def zRl(D:Nat)(M:Mat)(β:Nat->Nat)(l:List Nat):Nat->Sl:=fun t=>Gm.sl D M β (l.getD t 0)
theorem zK8(D:Nat)(M:Mat)(β:Nat->Nat)(l:List Nat):zFD l.length (zRl D M β l)=zEG D M l:=
 zKW (fun _ _=>rfl) (fun _ _=>rfl)
theorem zFJ{l:List Nat}{t:Nat}(h:t<l.length):l.getD t 0∈l:=by
 rw[yg,yx h];exact yAo h
theorem zNh(w0 w:zw)(cb D L G:Nat)(v:Value)(β:Nat->Nat)(hC:zAT w0 w cb D L G v β)(hD:D≤12)(l:List Nat)(hl:∀i∈l,i<D+L+G)(a0:l.length≤16)(u:Option Addr)(V Z:Nat)
  (J:0<l.length->u=zp V)(O:Row w V 0 l.length (fun t=>.slice (some ⟨β (l.getD t 0),0,none⟩) D D)):
  Calls prog 123 #[.slice u l.length Z] w fun e w'=>e=.returned (I (zEG D (zN D L) l))∧Below w w w':=by
 rw[<-zK8 D (zN D L) β l];exact zLa u V 0 l.length Z (zRl D (zN D L) β l) w J O.rd (fun i hi=>hC.gm.ok zo (hl _ (zFJ hi))) zo
theorem zRm{N x i:Nat}(h:i∈left N x):i<N:=(zY.1 h).1
theorem zAt(w:zw):Below w w w.drew:=⟨rfl,rfl,rfl,yb _,fun _ _=>rfl⟩
theorem zEH(w0:zw)(O D L G x:Nat)(v:Value)(β:Nat->Nat)(w:zw)(hC:zAT w0 w O D L G v β)(hR:zA6 D L G)(hx:x<2^64):
  Calls prog 102 #[O,U x] w fun e w'=>e=.returned (.bool (zEi D L G x))∧Below w w w':=by
 have HC:=zz hC;have a0:=hC.kd.lt;have c0:w.cell? O=some (I D):=hC.par.cell 0 zo;have a1:=hR.d2;have a3:=zz hR.sum;have HR:=zz hR;have HX:=zz (zNe x hx);have HY:=zz (zNg (N:=D+L+G) hR.sum hx);have a7:2^64 - (x+1)<2^64:=zo;have hy:(2^64 - (x+1)) % 2^(D+L+G)<2^64:=yBk (Nat.mod_le _ _) a7;have HE:=zy (zEi D L G x=(zEG D (zN D L) (left (D+L+G) x)==(D:Int))) rfl;generalize hyv:(2^64 - (x+1)) % 2^(D+L+G)=y at *;generalize hxv:2^64 - (x+1)=x' at *;have a9:=zz hyv;clear hC hR hyv hxv;have a2:=zz (zAt w);go_enter func102,ntmps102;go_wp2_with fail;go_region_with (first | (go_at_call 125;rw[HX.o];refine(zFh w0 O D L G x' v β _ (HC.o.later a2.o) HR.o a7).mono ?_;rintro e w1 ⟨rfl,V⟩;rw[a9.o];have u:=zz (a2.o.trans (V.mono (yb _)));have b2:=(u.o.cell (p:=O) a0).trans c0;clear V) | (go_at_call 124;refine(zIt w0 O D L G y v β _ (HC.o.later u.o) HR.o hy).mono ?_;rintro e w2 ⟨vo,rfl,Z,V⟩;rw[HY.o]at Z;obtain⟨va,vb,vc,rfl,a5,a6,_,_,_⟩:=Z.shape;have J:=zz (u.o.trans (V.mono u.o.size));have a8:=zz (zNh w0 w2 O D L G v β (HC.o.later J.o) a1 (left (D+L+G) x) (fun i=>zRm) (yC (zAw _ _) a3.o) va vb vc a5 a6);have b1:=(J.o.cell (p:=O) a0).trans c0;clear V a5 a6 Z) | (go_at_call 123;refine a8.o.mono ?_;rintro e w3 ⟨rfl,V⟩;have a4:=zz (J.o.trans (V.mono J.o.size));have b0:=(a4.o.cell (p:=O) a0).trans c0;clear V));(all_goals (go_wp2_with fail;go_ret;exact⟨by rw[HE.o];rfl,a4.o⟩))
end Go.Proofs.YtonfdlhikinldaaGreatDoor
namespace Go.Proofs.YtonfdlhikinldaaGreatDoor
open Lin Gf
def SL(D:Nat)(M:Mat)(l:List Nat):Vec->Prop:=fun r=>∃i∈l,r=fun j=>if j<D then M i j else 0
theorem zC5(D:Nat)(M:Mat)(l:List Nat):∀k,wid (zDf D M l) k=if k=0 then 0 else D
 | 0=>rfl
 | k+1=>by
  simp only[wid,zC5 D M l k];by_cases h:k=0
  ·simp[h,zDf]
  ·simp[h,zDf]
theorem zEd(D:Nat)(M:Mat)(l:List Nat)(w:Nat):rk (Lin.Rows l.length (fun t=>zLV (zDf D M l t))) w=rk (SL D M l) w:=by
 refine zOD (fun r h=>?_) (fun r h=>?_) w;{obtain⟨t,_,u,rfl⟩:=h;exact .row ⟨l.getD t 0,zFJ u,rfl⟩}
 ·obtain⟨i,J,rfl⟩:=h;obtain⟨t,u,rfl⟩:=yBv J;refine .row ⟨t,yAO _,u,?_⟩
  funext j
  simp[zLV,zDf,yg,u]
theorem zKr{D L G x:Nat}(h1:1≤D)(h2:D≤12)(h7:D+L+G≤16):zEi D L G x=true↔rk (SL D (zN D L) (left (D+L+G) x)) D=D:=by
 have a0:(left (D+L+G) x).length≤16:=yC (zAw _ _) h7;unfold zEi zEG;generalize left (D+L+G) x=l at *;rw[zH9 zo (by rw[zC5];split<;>omega),zC5,zCq,zEd];by_cases h:l.length=0;{rw[yq h];have hl:=List.length_eq_zero_iff.1 h;have e0:rk (SL D (zN D L) l) 0=0:=Nat.le_zero.1 (zOC _ 0);have Z:rk (SL D (zN D L) l) D≠D:=(by intro e;have J:∃c,c<D∧Led (SL D (zN D L) l) c:=(by refine Classical.byContradiction fun hn=>?_;have:rk (SL D (zN D L) l) D=0:=(by unfold rk;rw[yBp,List.filter_eq_nil_iff];intro c hc hd;exact hn ⟨c,by simpa using hc,by simpa using hd⟩);omega);obtain⟨c,_,v,hv,u⟩:=J;have V:∀j,v j=0:=(by clear u;(induction hv with |zero=>(intro j;rfl)|step c hr _ ih=>(obtain⟨i,O,_⟩:=hr;rw[hl]at O;simp at O)));exact u.2 (V c));rw[e0];constructor;{intro h;have:(0:Int)=D:=(by simpa using h);omega};{intro h;exact absurd h Z}};{rw[yl h];constructor;{intro h;have:((rk (SL D (zN D L) l) D:Nat):Int)=(D:Int):=(by simpa using h);omega};{intro h;rw[h];simp}}
theorem zDp(n:Nat)(p:Nat->Bool):∀m,(sel (n+m) p).length=(sel n p).length+(sel m (fun k=>p (n+k))).length
 | 0=>by simp[sel]
 | m+1=>by
  rw[show n+(m+1)=(n+m)+1 by omega,zAY,zAY];have u:=zDp n p m;by_cases h:p (n+m)=true
  ·rw[yq h,yq h];simp;omega
  ·rw[yl h,yl h];exact u
theorem zIX(p:Nat->Bool):∀n,(sel n p).length+(sel n (fun k=> !p k)).length=n
 | 0=>by simp[sel]
 | n+1=>by
  rw[zAY,zAY];have u:=zIX p n;by_cases h:p n=true
  ·rw[yq h,yl (by simp[h])];simp;omega
  ·rw[yl h,yq (by simp[h])];simp;omega
theorem zIY(f:Nat->UInt8)(p:Nat->Bool):∀l:List Nat,(∀j∈l,p j=false->f j=0)->l.foldr (fun j s=>f j^^^s) 0=(l.filter p).foldr (fun j s=>f j^^^s) 0
 | [],_=>rfl
 | a::l,h=>by
  have J:=zIY f p l (fun j O=>h j (yU _ O));by_cases u:p a=true
  ·rw[List.filter_cons_of_pos u,List.foldr_cons,List.foldr_cons,J]
  ·rw[List.filter_cons_of_neg u,List.foldr_cons,J,h a (yAc ..) (by simpa using u)];simp
theorem ofNat_toNat{j:Nat}(h:j<256):(UInt8.ofNat j).toNat=j:=by rw[yAl,yAz h]
theorem zM7{a b:Nat}(J:a<2^8)(u:b<2^8):UInt8.ofNat (a^^^b)=UInt8.ofNat b^^^UInt8.ofNat a:=by
 apply yAB;rw[yBt,ofNat_toNat J,ofNat_toNat u,ofNat_toNat (yBj J u),Nat.xor_comm]
theorem ofNat_inj{a b:Nat}(u:a<256)(J:b<256)(h:UInt8.ofNat a=UInt8.ofNat b):a=b:=by
 have:=yBx UInt8.toNat h;rwa[ofNat_toNat u,ofNat_toNat J]at this
theorem zIZ(n:Nat)(p:Nat->Bool):(sel n p).Nodup:=List.Pairwise.filter _ List.nodup_range
theorem zEw{l:List Nat}(O:l.Nodup){f:Nat->UInt8}(V:∀a∈l,∀b∈l,f a=f b->a=b):(l.map f).Nodup:=by
 unfold List.Nodup;rw[List.pairwise_map];exact List.Pairwise.imp_of_mem (fun J Z u e=>u (V _ J _ Z e)) O
theorem zLs{D L G x:Nat}(h1:1≤D)(h2:D≤12)(h7:D+L+G≤16)(hc:(sel (D+L+G) x.testBit).length≤G):zEi D L G x=true:=by
 refine(zKr h1 h2 h7).2 (Classical.byContradiction fun a1=>?_);have a3:=Nat.lt_of_le_of_ne (zOC _ _) a1;rw[<-zEd]at a3;obtain⟨v,⟨c,a5,a4⟩,hv⟩:=zIf a3;have a0:∀i,i<D+L+G->x.testBit i=false->dot D (zN D L i) v=0:=(by intro i hi J;have hm:i∈left (D+L+G) x:=zY.2 ⟨hi,by simp[J]⟩;obtain⟨t,ht,e⟩:=yBv hm;have V:=hv t ht;have hg:(left (D+L+G) x).getD t 0=i:=(by rw[yg,yx ht,e];rfl);have he:dot D (zLV (zDf D (zN D L) (left (D+L+G) x) t)) v=dot D (zN D L i) v:=(by unfold dot;have a2:∀l:List Nat,(∀j∈l,j<D)->l.foldr (fun j s=>mul (zLV (zDf D (zN D L) (left (D+L+G) x) t) j) (v j)^^^s) 0=l.foldr (fun j s=>mul (zN D L i j) (v j)^^^s) 0:=(by intro l;(induction l with |nil=>(intro _;rfl)|cons a l ih=>(intro hl;rw[List.foldr_cons,List.foldr_cons,ih fun j u=>hl j (yU _ u)];have:zLV (zDf D (zN D L) (left (D+L+G) x) t) a=zN D L i a:=(by have Z:=hl a (yAc ..);simp only[zLV,zDf,yq Z,hg]);rw[this])));exact a2 _ fun j u=>(by simpa using u));rw[<-he];exact V);have O:∀j,j<D->x.testBit j=false->v j=0:=(by intro j u J;have V:=a0 j zo J;unfold dot at V;rw[zEA _ List.nodup_range _ j (by simpa using u) (fun k _ a1=>by simp[zN,u,yBo a1,zero_mul])]at V;simpa[zN,u,one_mul]using V);let p:=x.testBit;let q:=fun k=> !x.testBit (D+L+k)
 have hP:∀a∈(sel D p).map UInt8.ofNat,(fun a:UInt8=>v a.toNat) a=0:=by
  refine zTA (sel D p).length ((sel D p).map UInt8.ofNat) zs (zEw (zIZ _ _) fun a Z b J e=>ofNat_inj (by have:=(zY.1 Z).1;omega) (by have:=(zY.1 J).1;omega) e)
   ((sel G q).map fun k=>UInt8.ofNat (D+k)) (zEw (zIZ _ _) fun a Z b J e=>by have:=ofNat_inj (by have:=(zY.1 Z).1;omega) (by have:=(zY.1 J).1;omega) e;omega)
   (fun a Z y hy e=>?_) (fun a=>v a.toNat) 0 (.inl ⟨rfl,?_⟩) (fun y hy=>?_)
  {obtain⟨j,u,rfl⟩:=List.mem_map.1 Z;obtain⟨k,hk,rfl⟩:=List.mem_map.1 hy;have a8:=(zY.1 u).1;have a7:=(zY.1 hk).1;have:=ofNat_inj zo zo e;omega};{rw[yH];have e1:=zDp (D+L) x.testBit G;have e2:=zDp D x.testBit L;have e3:=zIX (fun k=>x.testBit (D+L+k)) G;show(sel D x.testBit).length≤(sel G (fun k=> !x.testBit (D+L+k))).length;omega};{obtain⟨k,hk,rfl⟩:=List.mem_map.1 hy;obtain⟨a9,a6⟩:=zY.1 hk;have V:=a0 (D+L+k) zo (by simpa[q]using a6);unfold dot at V;rw[zIY _ p _ (fun j u J=>by rw[O j (by simpa using u) J,mul_zero])]at V;unfold cs;rw[List.foldr_map];refine Eq.trans ?_ V;show(sel D p).foldr _ 0=(sel D p).foldr _ 0;have a2:∀l:List Nat,(∀j∈l,j<D)->l.foldr (fun j s=>mul (v (UInt8.ofNat j).toNat) (inv (UInt8.ofNat j^^^UInt8.ofNat (D+k)))^^^s) 0=l.foldr (fun j s=>mul (zN D L (D+L+k) j) (v j)^^^s) 0:=(by intro l;(induction l with |nil=>(intro _;rfl)|cons a l ih=>(intro hl;have Z:=hl a (yAc ..);rw[List.foldr_cons,List.foldr_cons,ih fun j u=>hl j (yU _ u),<-zJM,ofNat_toNat zo,zM7 zo zo,zU8])));exact a2 _ fun j u=>(zY.1 u).1}
 by_cases J:x.testBit c=true;{have:=hP (UInt8.ofNat c) (List.mem_map.2 ⟨c,zY.2 ⟨a5,J⟩,rfl⟩);simp only[ofNat_toNat (show c<256 by omega)]at this;exact a4 this};{exact a4 (O c a5 (by simpa using J))}
end Go.Proofs.YtonfdlhikinldaaGreatDoor
namespace Go.Proofs.YtonfdlhikinldaaGreatDoor
open Lin Gf
theorem zHp{D:Nat}{M:Mat}{l:List Nat}(O:D≤64)(u:l.length≤64):zEG D M l=(rk (RL D M l) D:Int):=by
 unfold zEG;rw[zH9 u (by rw[zC5];split<;>omega),zC5,zCq,zEd];show((rk (RL D M l) _:Nat):Int)=_;by_cases h:l.length=0;{rw[yq h];have J:rk (RL D M l) 0=0:=Nat.le_zero.1 (zOC _ 0);have V:=zLj D M l D;rw[J];congr 1;omega};{rw[yl h]}
def zCY:Nat->List Nat->Nat->List Nat
 | 0,_,s=>[s]
 | _+1,[],_=>[]
 | n+1,a::l,s=>zCY n l (s|||2^a)++zCY (n+1) l s
theorem zEf:∀{l:List Nat} {n s:Nat},l.length<n->zCY n l s=[]
 | [],0,_,h=>absurd h zs
 | [],n+1,_,_=>by simp[zCY]
 | a::l,0,_,h=>absurd h zs
 | a::l,n+1,s,h=>by
  simp only[yF]at h;rw[zCY,zEf (l:=l) zo,zEf (l:=l) zo];rfl
theorem zIj(a:Nat)(l:List Nat):zGk (a::l)=2^a|||zGk l:=rfl
theorem zEC:∀{l:List Nat} {n s x:Nat},x∈zCY n l s↔∃k:List Nat,k.Sublist l∧k.length=n∧x=s|||zGk k
 | l,0,s,x=>by
  simp only[zCY,yJ];constructor
  ·rintro rfl;exact⟨[],List.nil_sublist _,rfl,by simp[zGk]⟩
  ·rintro⟨k,_,hk,rfl⟩;rw[List.length_eq_zero_iff.1 hk];simp[zGk]
 | [],n+1,s,x=>by
  simp only[zCY,List.not_mem_nil,false_iff];rintro⟨k,hk,O,_⟩;rw[List.sublist_nil.1 hk]at O;simp at O
 | a::l,n+1,s,x=>by
  rw[zCY,yAr,zEC (l:=l),zEC (l:=l)];constructor
  ·rintro(⟨k,J,u,rfl⟩ | ⟨k,J,u,rfl⟩)
   ·exact⟨a::k,J.cons_cons a,by simp[u],by rw[zIj,Nat.or_assoc]⟩
   ·exact⟨k,J.cons a,u,rfl⟩
  ·rintro⟨k,J,u,rfl⟩;rcases List.sublist_cons_iff.1 J with h | ⟨r,rfl,h⟩
   ·exact .inr ⟨k,h,u,rfl⟩
   ·exact .inl ⟨r,h,by simpa using u,by rw[zIj,Nat.or_assoc]⟩
theorem zED(N:Nat)(p:Nat->Bool):(sel N p).Pairwise (· <·):=List.Pairwise.filter _ List.pairwise_lt_range
theorem zHq{N:Nat}{p:Nat->Bool}{k:List Nat}(h:k.Sublist (sel N p)):sel N (zGk k).testBit=k:=
 zKh ((zED N p).sublist h) fun i u=>(zY.1 (h.subset u)).1
theorem zPl{N x:Nat}(J:x<2^N):zGk (sel N x.testBit)=x:=by
 apply yBF;intro i;rw[zAz];by_cases h:i<N;{by_cases u:x.testBit i=true;{simp[zY,h,u]};{simp[zY,u]}};{have:x.testBit i=false:=yBy (yI J (yM zo zo));simp[zY,h,this]}
def spB(D L N x read:Nat):Bool:=zEG D (zN D L) (sel N read.testBit++sel N x.testBit)==zEG D (zN D L) (sel N read.testBit)
theorem zJ4{D L N x read:Nat}(V:D≤12)(u:N≤16):spB D L N x read=true↔zCi D (zN D L) (sel N read.testBit) (sel N x.testBit):=by
 have O:(sel N read.testBit).length≤16:=yC (zAw _ _) u;have J:(sel N x.testBit).length≤16:=yC (zAw _ _) u;rw[<-zJm];unfold spB;rw[zHp zo (by rw[yB];omega),zHp zo zo];constructor;{intro h;have:=yAV h;omega};{intro h;rw[h];simp}
def zNU(N x:Nat):Nat:=(2^64 - (x+1)) % 2^N
def zAl(D L N x:Nat):Nat->Nat->Nat
 | 0,_=>zNU N x
 | m+1,k=>match(zCY k (left N x) 0).find? (spB D L N x)with
  | some s=>s
  | none=>zAl D L N x m (k+1)
theorem zGy{D L N x m k s:Nat}(h:(zCY k (left N x) 0).find? (spB D L N x)=some s):zAl D L N x (m+1) k=s:=by
 unfold zAl;rw[h]
theorem zDs{D L N x m k:Nat}(h:(zCY k (left N x) 0).find? (spB D L N x)=none):zAl D L N x (m+1) k=zAl D L N x m (k+1):=by
 conv=>lhs;unfold zAl
 rw[h]
theorem zIk{D L N x:Nat}:∀{m k:Nat},(∃j s,k≤j∧j<k+m∧s∈zCY j (left N x) 0∧spB D L N x s=true)->
  ∃j,k≤j∧j<k+m∧zAl D L N x m k∈zCY j (left N x) 0∧spB D L N x (zAl D L N x m k)=true∧∀i,k≤i->i<j->∀s∈zCY i (left N x) 0,spB D L N x s=false
 | 0,k,h=>by obtain⟨j,s,V,J,_⟩:=h;omega
 | m+1,k,h=>by
  cases u:(zCY k (left N x) 0).find? (spB D L N x)with
  | some s=>
   rw[zGy u];exact⟨k,yb _,zo,List.mem_of_find?_eq_some u,List.find?_some u,fun i V J=>zo⟩
  | none=>
   rw[zDs u];have hn:=fun s hs=>(by simpa using List.find?_eq_none.1 u s hs);obtain⟨j,s,V,J,Z,O⟩:=h;have a0:j≠k:=fun e=>(by subst e;rw[hn s Z]at O;exact absurd O zs);obtain⟨j',a1,a2,a3,a4,a5⟩:=zIk (m:=m) (k:=k+1) ⟨j,s,zo,zo,Z,O⟩;exact⟨j',zo,zo,a3,a4,fun i V J s hs=>by
                            by_cases e:i=k
                            ·exact hn s (e▸hs)
                            ·exact a5 i zo J s hs⟩
def grp(D L i:Nat):Nat:=if i<D then i / (D / L)else i - D
def inG(D L g b:Nat):Bool:=b==D+g||(decide (b<D)&&b / (D / L)==g)
def zIl(D L N i:Nat):Nat:=zGk (sel N fun b=>inG D L (grp D L i) b&&b !=i)
def zBJ(D L N x:Nat):Nat:=match sel N x.testBit with
 | [i]=>if i<D+L then zIl D L N i else zAl D L N x (D+1) 0
 | _=>zAl D L N x (D+1) 0
theorem zIm{D L N x i:Nat}(h:sel N x.testBit=[i])(u:i<D+L):zBJ D L N x=zIl D L N i:=by
 unfold zBJ;rw[h];simp only;rw[yq u]
theorem zNV{D L N x i:Nat}(h:sel N x.testBit=[i])(u:¬i<D+L):zBJ D L N x=zAl D L N x (D+1) 0:=by
 unfold zBJ;rw[h];simp only;rw[yl u]
theorem zL6{D L N x:Nat}(h:(sel N x.testBit).length≠1):zBJ D L N x=zAl D L N x (D+1) 0:=by
 unfold zBJ;split;{rename_i i e;rw[e]at h;simp at h};{rfl}
theorem zEy{D L N x:Nat}(h:∀i,sel N x.testBit=[i]->¬i<D+L):zBJ D L N x=zAl D L N x (D+1) 0:=by
 by_cases u:(sel N x.testBit).length=1;{obtain⟨i,J⟩:=List.length_eq_one_iff.1 u;exact zNV J (h i J)};{exact zL6 u}
theorem zNW{D L k j:Nat}(hk:¬k<D)(u:k<D+L):zN D L k j=if j / (D / L)=k - D then 1 else 0:=by
 unfold zN;rw[yl hk,yq u];by_cases h:j / (D / L)=k - D;{rw[yq h,yq zo]};{rw[yl h,yl zo]}
structure zJ5 (D L G x:Nat) (r:Nat):Prop where
 lt:r<2^(D+L+G)
 apart:∀b,r.testBit b=true->x.testBit b=false
 spans:zCi D (zN D L) (sel (D+L+G) r.testBit) (sel (D+L+G) x.testBit)
 data:(sel (D+L+G) r.testBit).length≤D
theorem zHr{N x i:Nat}:i∈left N x↔i<N∧x.testBit i=false:=by unfold left;rw[zY];simp
theorem zIn{D L G x:Nat}(h1:1≤D)(h2:D≤12)(h7:D+L+G≤16)(hd:zEi D L G x=true):zJ5 D L G x (zAl D L (D+L+G) x (D+1) 0):=by
 have b0:rk (RL D (zN D L) (left (D+L+G) x)) D=D:=(zKr h1 h2 h7).1 hd;obtain⟨b,O,a9,a8⟩:=zT4 D (zN D L) (left (D+L+G) x);have b1:=a9▸zOC _ _;have J:∀i,Sp (RL D (zN D L) (left (D+L+G) x)) (tr D (zN D L) i):=by
  intro i;obtain⟨u,hu,a0⟩:=zHD (S:=RL D (zN D L) (left (D+L+G) x)) (T:=RL D (zN D L) (left (D+L+G) x++[i])) (RL.sub fun i Z=>yBH _ Z) D
   (Nat.le_antisymm (zF3 (RL.sub fun i Z=>yBH _ Z) D) (yC (zOC _ _) (Nat.le_of_eq b0.symm))) (.row (RL.mk (List.mem_append_right _ (List.mem_singleton.2 rfl))))
  have:u=tr D (zN D L) i:=by
   funext j
   by_cases hj:j<D;{exact a0 j hj};{rw[zO2 hu j zo];unfold tr;rw[yl hj]}
  exact this▸hu
 have a6:zCi D (zN D L) b (sel (D+L+G) x.testBit):=a8.trans fun i _=>J i;have a7:zGk b∈zCY b.length (left (D+L+G) x) 0:=zEC.2 ⟨b,O,rfl,zs⟩;obtain⟨j,a1,a2,a3,a4,a5⟩:=zIk (D:=D) (L:=L) (N:=D+L+G) (x:=x) (m:=D+1) (k:=0) ⟨b.length,zGk b,yAO _,zo,a7,(zJ4 h2 h7).2 (by rw[zHq O];exact a6)⟩;generalize zAl D L (D+L+G) x (D+1) 0=r at *;obtain⟨k,k1,k2,rfl⟩:=zEC.1 a3;rw[Nat.zero_or]at *;have V:=zHq k1;refine⟨zKg fun i Z=>(zHr.1 (k1.subset Z)).1,fun b hb=>?_,(zJ4 h2 h7).1 a4,by rw[V];omega⟩;{rw[zAz]at hb;exact(zHr.1 (k1.subset (yAV hb))).2}
theorem zNX{D L N i b:Nat}:(zIl D L N i).testBit b=true↔b<N∧inG D L (grp D L i) b=true∧b≠i:=by
 unfold zIl;rw[zAz];simp[zY]
theorem zNY{D L g b:Nat}:inG D L g b=true↔b=D+g∨b<D∧b / (D / L)=g:=by simp[inG]
end Go.Proofs.YtonfdlhikinldaaGreatDoor
namespace Go.Proofs.YtonfdlhikinldaaGreatDoor
open Lin Gf
theorem zK4{D L s g:Nat}(u:D=L*s)(J:g<L):g*s+s≤D:=by
 have:(g+1)*s≤L*s:=yBn _ zo;rw[Nat.add_mul]at this;omega
theorem zDC{j s g:Nat}(hs:0<s):j / s=g↔g*s≤j∧j<g*s+s:=by
 constructor;{rintro rfl;have u:=yBu j s;have J:=yAM j hs;have O:j / s*s=s*(j / s):=yAW ..;omega};{rintro⟨u,J⟩;exact Nat.div_eq_of_lt_le u (by rw[Nat.add_mul];omega)}
theorem zIo{D L N s g i:Nat}{l:List Nat}(hs:0<s)(u:D=L*s)(V:g<L)(O:∀b,b<D->b / s=g->b≠i->b∈l):∀k,k≤s->Sp (RL D (zN D L) l) (fun j=>if g*s≤j∧j<g*s+k∧j≠i then 1 else 0)
 | 0,_=>by
  refine cast (yBx (Sp _) (funext fun j=>?_)) (Sp.zero (S:=RL D (zN D L) l));rw[yl zo]
 | k+1,hk=>by
  have a0:=zK4 u V;have Z:=zIo (D:=D) (L:=L) (N:=N) hs u V O k zo;by_cases e:g*s+k=i
  ·refine cast (yBx (Sp _) (funext fun j=>?_)) Z;by_cases h:g*s≤j∧j<g*s+k∧j≠i
   ·rw[yq h,yq zo]
   ·rw[yl h,yl zo]
  ·have hm:=O _ zo ((zDC hs).2 zo) e;refine cast (yBx (Sp _) (funext fun j=>?_)) (Z.add (.row (RL.mk (M:=zN D L) (D:=D) hm)));show _^^^tr D (zN D L) (g*s+k) j=_;have ht:tr D (zN D L) (g*s+k) j=if j=g*s+k then 1 else 0:=by
    unfold tr zN;by_cases J:j<D
    ·rw[yq J,yq zo];by_cases e:g*s+k=j
     ·rw[yq e,yq e.symm]
     ·rw[yl e,yl (yBo e)]
    ·rw[yl J,yl zo]
   rw[ht];by_cases h:j=g*s+k
   ·rw[yl zo,yq h,yq zo];rfl
   ·rw[yl h];by_cases h':g*s≤j∧j<g*s+k∧j≠i
    ·rw[yq h',yq zo];rfl
    ·rw[yl h',yl zo];rfl
theorem zJ6{D L G i x:Nat}(h1:1≤D)(h3:1≤L)(h6:D % L=0)(h7:D+L+G≤16)(hx:sel (D+L+G) x.testBit=[i])(hi:i<D+L):
  zJ5 D L G x (zIl D L (D+L+G) i):=by
 obtain⟨s,hs⟩:=zx (D / L);have hD:D=L*s:=(by have:=yBu D L;rw[h6,<-hs]at this;omega);have O:0<s:=(by rcases yAF s with h | h;{rw[h]at hD;simp at hD;omega};{exact h});obtain⟨g,hg⟩:=zx (grp D L i);have a2:(i<D∧i / s=g)∨i=D+g:=(by unfold grp at hg;by_cases h:i<D;{rw[yq h,<-hs]at hg;exact .inl ⟨h,hg.symm⟩};{rw[yl h]at hg;exact .inr zo});have a1:g<L:=(by rcases a2 with⟨h,e⟩ | h;{have:=(Nat.div_lt_iff_lt_mul O).2 (hD▸h);omega};{omega});have a9:=zK4 hD a1;obtain⟨N,hN⟩:=zx (D+L+G);have J:∀b,(zIl D L (D+L+G) i).testBit b=true↔b<D+L+G∧(b=D+g∨b<D∧b / s=g)∧b≠i:=fun b=>(by rw[zNX,<-hg,zNY,<-hs]);have a5:∀b,b<D+L+G->(x.testBit b=true↔b=i):=fun b Z=>(by have:b∈sel (D+L+G) x.testBit↔b=i:=(by rw[hx];simp);rw[zY]at this;exact⟨fun h=>this.1 ⟨Z,h⟩,fun h=>(this.2 h).2⟩);have a0:∀b,b∈sel (D+L+G) (zIl D L (D+L+G) i).testBit↔b<D+L+G∧(b=D+g∨b<D∧b / s=g)∧b≠i:=fun b=>(by rw[zY,J];exact⟨fun h=>h.2,fun h=>⟨h.1,h⟩⟩);have b0:zCi D (zN D L) (sel (D+L+G) (zIl D L (D+L+G) i).testBit) [i]:=(by intro i' a7;obtain rfl:=List.mem_singleton.1 a7;have h0:=zIo (D:=D) (L:=L) (N:=N) (i:=i') O hD a1 (fun b Z a8 a4=>(a0 b).2 ⟨zo,.inr ⟨Z,a8⟩,a4⟩) s (yb _);rcases a2 with⟨h,e⟩ | h;{have hp:=(a0 _).2 ⟨zo,.inl rfl,zo⟩;refine cast (yBx (Sp _) (funext fun j=>?_)) (h0.add (.row (RL.mk (M:=zN D L) (D:=D) hp)));show _^^^tr D (zN D L) (D+g) j=tr D (zN D L) i' j;unfold tr;by_cases hj:j<D;{rw[yq hj,yq hj,zNW zo zo,<-hs,show D+g - D=g by omega];unfold zN;rw[yq h];have V:=zDC (j:=j) (g:=g) O;have b2:=(zDC (j:=i') (g:=g) O).1 e;by_cases u:j / s=g;{have:=V.1 u;rw[yq u];by_cases e':j=i';{rw[yl zo,yq e'.symm];rfl};{rw[yq zo,yl (yBo e')];rfl}};{have:¬(g*s≤j∧j<g*s+s):=fun h=>u (V.2 h);rw[yl zo,yl u,yl zo];rfl}};{rw[yl hj,yl hj,yl zo];rfl}};{refine cast (yBx (Sp _) (funext fun j=>?_)) h0;show _=tr D (zN D L) i' j;unfold tr;by_cases hj:j<D;{rw[yq hj,zNW zo zo,<-hs,show i' - D=g by omega];have V:=zDC (j:=j) (g:=g) O;by_cases u:j / s=g;{have:=V.1 u;rw[yq u,yq zo]};{have:¬(g*s≤j∧j<g*s+s):=fun h=>u (V.2 h);rw[yl u,yl zo]}};{rw[yl hj,yl zo]}});have b1:(sel (D+L+G) (zIl D L (D+L+G) i).testBit).length≤s:=(by obtain⟨K,hK⟩:=zx ((D+g)::(List.range s).map (fun t=>g*s+t));have e1:∀b,b=D+g∨b<D∧b / s=g->b∈K:=(by rintro b (rfl | ⟨_,h⟩);{rw[hK];exact yAc ..};{have:=(zDC O).1 h;rw[hK];exact yU _ (List.mem_map.2 ⟨b - g*s,by simp;omega,zo⟩)});have e2:=zO3 (D+L+G) K;have e3:K.length=s+1:=(by rw[hK];simp);have a6:=e1 i zo;have e4:(sel (D+L+G) (zIl D L (D+L+G) i).testBit).length<cnt (D+L+G) (fun k=>decide (k∈K)):=(by refine zCx (fun b Z=>?_) _ (a:=i) (by simp;omega) (by simpa using a6) ?_;{exact yG (e1 b ((J b).1 Z).2.1)};{rw[Bool.eq_false_iff];exact fun h=>((J i).1 h).2.2 rfl});omega);refine⟨zKg fun b Z=>(zY.1 Z).1,fun b Z=>?_,by rw[hx];exact b0,?_⟩;{have a3:=(J b).1 Z;rw[Bool.eq_false_iff];exact fun h=>a3.2.2 ((a5 b a3.1).1 h)};{have:=a9;omega}
theorem zFH{D L G x:Nat}(O:1≤D)(Z:D≤12)(h3:1≤L)(h6:D % L=0)(V:D+L+G≤16)(hd:zEi D L G x=true):zJ5 D L G x (zBJ D L (D+L+G) x):=by
 by_cases h:∃i,sel (D+L+G) x.testBit=[i]∧i<D+L;{obtain⟨i,u,J⟩:=h;rw[zIm u J];exact zJ6 O h3 h6 V u J};{rw[zEy fun i u J=>h ⟨i,u,J⟩];exact zIn O Z V hd}
end Go.Proofs.YtonfdlhikinldaaGreatDoor
namespace Go.Proofs.YtonfdlhikinldaaGreatDoor
open Go.RowKit Go.Proofs Lin Go.Shelf Go.Proofs.Tryz
theorem zGM(w0 w:zw)(cb D L G:Nat)(v:Value)(β:Nat->Nat)(hC:zAT w0 w cb D L G v β)(hD:D≤12)(l:List Nat)(hl:∀i∈l,i<D+L+G)(a0:l.length≤64)(u:Option Addr)(V Z:Nat)
  (J:0<l.length->u=zp V)(O:Rd w V 0 l.length (fun t=>.slice (some ⟨β (l.getD t 0),0,none⟩) D D)):
  Calls prog 123 #[.slice u l.length Z] w fun e w'=>e=.returned (I (zEG D (zN D L) l))∧Below w w w':=by
 rw[<-zK8 D (zN D L) β l];exact zLa u V 0 l.length Z (zRl D (zN D L) β l) w J O (fun i hi=>hC.gm.ok zo (hl _ (zFJ hi))) zo
theorem zMt(w0:zw)(Z D L G x:Nat)(v:Value)(β:Nat->Nat)(w:zw)(hC:zAT w0 w Z D L G v β)(hR:zA6 D L G)(hx:x<2^64):
  Calls prog 144 #[Z,U x] w fun e w'=>e=.returned (I (zEG D (zN D L) (sel (D+L+G) x.testBit)))∧Below w w w':=by
 have HC:=zz hC;have HR:=zz hR;have hD:=hR.d2;have HN:=zz (yC (zAw (D+L+G) x.testBit) hR.sum);have HL:=zy (∀i∈sel (D+L+G) x.testBit,i<D+L+G) (fun i hi=>(zY.1 hi).1);have HX:=zz (fun w (h:zAT w0 w Z D L G v β)=>zIt w0 Z D L G x v β w h HR.o hx);unfold zOb at HX;generalize sel (D+L+G) x.testBit=l at *;clear hC hR;go_enter func144,ntmps144;go_wp2_with fail;refine(HX.o _ HC.o).mono ?_;rintro e w1 ⟨vo,rfl,V,u⟩;obtain⟨va,vb,vc,rfl,J,O,_,_,_⟩:=V.shape;have HB:=zz u;have HK:=zz (zGM w0 w1 Z D L G v β (HC.o.later u) hD l HL.o (by have:=HN.o;omega) va vb vc J O.rd);clear u V J O;go_wp2_with fail;refine HK.o.mono ?_;rintro e w2 ⟨rfl,u⟩;have a0:=zz (HB.o.trans (u.mono HB.o.size));clear u;go_wp2_with fail;go_ret;exact⟨rfl,a0.o⟩
theorem zKi(l m:List Nat)(i:Nat):(l++m).getD i 0=if i<l.length then l.getD i 0 else m.getD (i - l.length) 0:=by
 simp only[yg];by_cases h:i<l.length;{rw[yq h,yQ h]};{rw[yl h,yAC zo]}
theorem zO4(w0:zw)(cb D L G x r:Nat)(v:Value)(β:Nat->Nat)(w:zw)(hC:zAT w0 w cb D L G v β)(hR:zA6 D L G)(hx:x<2^64)(hr:r<2^64):
  Calls prog 145 #[cb,U x,U r] w fun e w'=>e=.returned (.bool (spB D L (D+L+G) x r))∧Below w w w':=by
 have HC:=zz hC;have HR:=zz hR;have hD:=hR.d2;have HN:=zz (yC (zAw (D+L+G) x.testBit) hR.sum);have a2:=zz (yC (zAw (D+L+G) r.testBit) hR.sum);have HE:=zy (spB D L (D+L+G) x r=(zEG D (zN D L) (sel (D+L+G) r.testBit++sel (D+L+G) x.testBit)==zEG D (zN D L) (sel (D+L+G) r.testBit))) rfl;have HX:=zz (fun w (h:zAT w0 w cb D L G v β)=>zIt w0 cb D L G x v β w h HR.o hx);have HL:=zy (∀i∈sel (D+L+G) x.testBit,i<D+L+G) (fun i hi=>(zY.1 hi).1);have b3:=zy (∀i∈sel (D+L+G) r.testBit,i<D+L+G) (fun i hi=>(zY.1 hi).1);have b2:=zz (fun w (h:zAT w0 w cb D L G v β)=>zIt w0 cb D L G r v β w h HR.o hr);unfold zOb at HX b2;generalize spB D L (D+L+G) x r=sb at *;generalize sel (D+L+G) r.testBit=l at *;generalize sel (D+L+G) x.testBit=m at *;clear hC hR;go_enter func145,ntmps145;go_wp2_with fail;refine(b2.o _ HC.o).mono ?_;rintro e w1 ⟨vo,rfl,a4,u⟩;have HV:=zz a4;obtain⟨va,vb,vc,rfl,a9,b0,_,_,_⟩:=a4.shape;have HB:=zz u;have HK:=zz (zGM w0 w1 cb D L G v β (HC.o.later u) hD l b3.o (by have:=a2.o;omega) va vb vc a9 b0.rd);clear u a4 a9 b0;go_wp2_with fail;refine HK.o.mono ?_;rintro e w2 ⟨rfl,u⟩;have a3:=zz (HB.o.trans (u.mono HB.o.size));have c4:=zz (HV.o.later u);clear u;go_wp2_with fail;refine(HX.o _ (HC.o.later a3.o)).mono ?_;rintro e w3 ⟨c6,rfl,a0,u⟩;obtain⟨b7,c3,c5,rfl,O,J,_,_,_⟩:=a0.shape;have a1:=zz (a3.o.trans (u.mono a3.o.size));have a7:=zz (c4.o.later u);have b4:=zz O;have b6:=zz J.rd;clear u a0 O J;go_wp2_with (
  refine zU rfl (.tmp 14) (.tmp 17) 141 rfl w 31 (.slice none 0 0) 24 underlying141 zHA rfl _ l.length _ rfl a7.o b7 m.length c5 c3 0 _ rfl b4.o b6.o (fun _ _=>rfl) (by have:=HN.o;have:=a2.o;omega) zo a1.o.size ?_;intro v4 w4 a6 b1;obtain⟨c1,c0,b9,rfl,Z,V,_,_,_⟩:=a6.shape;have a5:=zz (a1.o.trans (b1.below (fun b e=>(a7.o.lt b e.symm).1) a1.o.size));have a8:=zz (zGM w0 w4 cb D L G v β (HC.o.later a5.o) hD (l++m) (fun i hi=>by rcases List.mem_append.1 hi with h | h;exact b3.o i h;exact HL.o i h) (by have:=HN.o;have:=a2.o;rw[yB];omega) c1 c0 b9 (by rw[yB];exact Z)
   (by rw[yB];exact V.rd.congr fun i hi=>by
        rw[zKi];by_cases h:i<l.length
        ·rw[yq h,yq h]
        ·rw[yl h,yl h]))
  rw[yB]at a8;clear a6 b1 Z V)
 refine a8.o.mono ?_;rintro e w5 ⟨rfl,u⟩;have b5:=zz (a5.o.trans (u.mono a5.o.size));clear u;go_wp2_with fail;go_ret;exact⟨by rw[HE.o];rfl,b5.o⟩
end Go.Proofs.YtonfdlhikinldaaGreatDoor
