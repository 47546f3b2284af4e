import Derived.Test.YtonfdlhikinldaaGreatDoorBu17
import Derived.Test.YtonfdlhikinldaaGreatDoorBu19
import Derived.Test.YtonfdlhikinldaaGreatDoorBu20
import Derived.Test.YtonfdlhikinldaaGreatDoorBu22
set_option maxRecDepth 100000
set_option linter.all false
set_option linter.unusedVariables false
set_option maxHeartbeats 16000000
namespace Go.Proofs.YtonfdlhikinldaaGreatDoor
open Lin Gf
variable {s:Stp}
abbrev Sd:Stp:=⟨0,0,0,0⟩
def zEE(u n:Nat)(y:Vec):List Stp:=((List.range n).filter fun j=>y j !=0).map fun(j:Nat)=>⟨1,(u:Int),(j:Int),y j⟩
def byV(D L:Nat)(R:List Nat)(i:Nat):Vec:=zRi D R.length (eqM R.length (fun k=>zN D L (R.getD k 0)) (zN D L i))
def zA3(R:List Nat):List Stp:=(List.range R.length).map fun(t:Nat)=>⟨0,(t:Int),(R.getD t 0:Nat),0⟩
def zRj(D L:Nat)(R:List Nat)(u i:Nat):List Stp:=zEE (R.length+u) R.length (byV D L R i)++[⟨2,(R.length+u:Nat),(i:Int),0⟩]
def zDa(D L:Nat)(R l:List Nat):List Stp:=(List.range l.length).flatMap fun u=>zRj D L R u (l.getD u 0)
def zAV(D L N x:Nat):List Nat:=sel N (zBJ D L N x).testBit
def zAx(N x:Nat):List Nat:=sel N x.testBit
def zAF(D L N x:Nat):List Stp:=zA3 (zAV D L N x)++zDa D L (zAV D L N x) (zAx N x)
def zBh(D L N x:Nat):Nat:=(zAV D L N x).length+(zAx N x).length
theorem zL7(u:Nat)(y:Vec):zEE u 0 y=[]:=rfl
theorem zGz(u n:Nat)(y:Vec):zEE u (n+1) y=if y n !=0 then zEE u n y++[⟨1,(u:Int),(n:Int),y n⟩]else zEE u n y:=by
 unfold zEE;rw[List.range_succ,List.filter_append,yP];by_cases h:(y n !=0)=true;{rw[yq h];simp[h]};{rw[yl h];simp[h]}
theorem zDt(R:List Nat)(i:Nat):zA3 (R++[i])=zA3 R++[⟨0,(R.length:Int),(i:Int),0⟩]:=by
 unfold zA3;rw[yB,yZ,List.range_succ,yP];congr 1;{refine yY fun t u=>?_;have:t<R.length:=(by simpa using u);simp[yg,yQ this]};{simp}
theorem zEg(D L:Nat)(R l:List Nat)(i:Nat):zDa D L R (l++[i])=zDa D L R l++zRj D L R l.length i:=by
 unfold zDa;rw[yB,yZ,List.range_succ,yAL];congr 1;{rw[List.flatMap_def,List.flatMap_def];congr 1;refine yY fun t u=>?_;have:t<l.length:=(by simpa using u);simp[yg,yQ this]};{simp}
theorem zNZ(D L:Nat)(R:List Nat):zDa D L R []=[]:=rfl
theorem zIp(u n:Nat)(y:Vec):(zEE u n y).length≤n:=by
 unfold zEE;rw[yH];exact yC (List.length_filter_le _ _) zs
theorem zEh(R:List Nat):(zA3 R).length=R.length:=by simp[zA3]
theorem zPm(D L:Nat)(R:List Nat)(u i:Nat):(zRj D L R u i).length≤R.length+1:=by
 unfold zRj;rw[yB];have:=zIp (R.length+u) R.length (byV D L R i);simp;exact this
theorem zFI{α:Type}{P:List α->Prop}(J:P [])(u:∀l a,P l->P (l++[a]))(l:List α):P l:=by
 have:∀m:List α,P m.reverse:=(by intro m;(induction m with |nil=>(exact J)|cons a m ih=>(rw[List.reverse_cons];exact u _ _ ih)));simpa using this l.reverse
theorem zIq(D L:Nat)(R l:List Nat):(zDa D L R l).length≤l.length*(R.length+1):=by
 refine zFI (P:=fun l=>(zDa D L R l).length≤l.length*(R.length+1)) (by simp[zDa]) (fun l a u=>?_) l;rw[zEg,yB,yB,yZ,Nat.add_mul];have:=zPm D L R l.length a;omega
def zIr(sh:Nat->Nat->UInt8)(t:(Nat->Nat->UInt8) × List (Int × (Nat->UInt8)))(s:Stp):(Nat->Nat->UInt8) × List (Int × (Nat->UInt8)):=
 (zGi sh s t.1,if s.k.toNat=2 then t.2++[(s.b,t.1 s.a.toNat)]else t.2)
def zNa(sh:Nat->Nat->UInt8)(P:List Stp)(t:(Nat->Nat->UInt8) × List (Int × (Nat->UInt8))):=P.foldl (zIr sh) t
theorem zBY(sh:Nat->Nat->UInt8)(P Q:List Stp)(t):zNa sh (P++Q) t=zNa sh Q (zNa sh P t):=yBs ..
theorem zIs(sh:Nat->Nat->UInt8)(P:List Stp):∀k,k≤P.length->zNa sh (P.take k) (fun _ _=>0,[])=(zB7 sh (fun t=>P.getD t Sd) k,zDX sh (fun t=>P.getD t Sd) k)
 | 0,_=>rfl
 | k+1,hk=>by
  have u:k<P.length:=hk;rw[List.take_succ_eq_append_getElem u,zBY,zIs sh P k zo];have e:P.getD k Sd=P[k]:=by simp[yg,u]
  show zIr sh _ P[k]=(zGi sh (P.getD k Sd) _,if(P.getD k Sd).k.toNat=2 then zDX sh (fun t=>P.getD t Sd) k++[((P.getD k Sd).b,zB7 sh (fun t=>P.getD t Sd) k (P.getD k Sd).a.toNat)]else zDX sh (fun t=>P.getD t Sd) k);rw[e];rfl
theorem zPn(sh:Nat->Nat->UInt8)(P:List Stp):zDX sh (fun t=>P.getD t Sd) P.length=(zNa sh P (fun _ _=>0,[])).2:=by
 have:=zIs sh P P.length (yb _);rw[yAD]at this;rw[this]
theorem zNb(sh:Nat->Nat->UInt8)(R:List Nat):zNa sh (zA3 R) (fun _ _=>0,[])=(fun r=>if r<R.length then sh (R.getD r 0)else fun _=>0,[]):=by
 refine zFI (P:=fun R=>zNa sh (zA3 R) (fun _ _=>0,[])=(fun r=>if r<R.length then sh (R.getD r 0)else fun _=>0,[])) ?_ (fun l a u=>?_) R;{simp[zA3,zNa]}
 ·rw[zDt,zBY,u];show zIr sh _ _=_;unfold zIr zGi;simp only[UInt8.toNat_ofNat,yAy];refine Prod.ext ?_ zs
  funext r
  simp only[show((0:UInt8).toNat=0)from rfl,yBa,yB,yZ];by_cases h:r=l.length;{subst h;simp[yg]};{rw[yl h];by_cases h':r<l.length;{rw[yq h',yq zo];simp[yg,yQ h']};{rw[yl h',yl zo]}}
theorem zK5(sh:Nat->Nat->UInt8)(u:Nat)(y:Vec)(M:Nat->Nat->UInt8)(o:List (Int × (Nat->UInt8))):∀n,n≤u->zNa sh (zEE u n y) (M,o)=(fun r=>if r=u then fun t=>M u t^^^dot n (fun j=>M j t) y else M r,o)
 | 0,_=>by
  refine Prod.ext ?_ rfl
  funext r
  show M r=if r=u then(fun t=>M u t^^^dot 0 (fun j=>M j t) y)else M r;by_cases h:r=u
  ·rw[yq h,h];funext t;show _=M u t^^^0;simp
  ·rw[yl h]
 | n+1,hn=>by
  have O:=zK5 sh u y M o n zo;rw[zGz];by_cases h:(y n !=0)=true
  ·rw[yq h,zBY,O];show zIr sh _ _=_;unfold zIr zGi;refine Prod.ext ?_ zs
   funext r
   simp only[show((1:UInt8).toNat=1)from rfl,yAy,show ¬(1=0)by omega,if_false,yBa];by_cases J:r=u
   ·subst J;rw[yq rfl,yq rfl]
    funext t
    rw[yl zo,zA9,UInt8.xor_assoc,zU8 (y n)]
   ·rw[yl J,yl J,yl J]
  ·rw[yl h,O];have V:y n=0:=(by simpa using h);refine Prod.ext ?_ rfl
   funext r
   by_cases J:r=u
   ·simp only[yq J]
    funext t
    rw[zA9,V,mul_zero];simp
   ·simp only[yl J]
def zPN(sh:Nat->Nat->UInt8)(R:List Nat)(D L:Nat)(l:List Nat):Nat->Nat->UInt8:=fun r=>
 if r<R.length then sh (R.getD r 0)else if r<R.length+l.length then fun t=>dot R.length (fun j=>sh (R.getD j 0) t) (byV D L R (l.getD (r - R.length) 0))else fun _=>0
def zTD(sh:Nat->Nat->UInt8)(R:List Nat)(D L:Nat)(l:List Nat):List (Int × (Nat->UInt8)):=
 l.map fun(i:Nat)=>((i:Int),fun t=>dot R.length (fun j=>sh (R.getD j 0) t) (byV D L R i))
theorem zPo(sh:Nat->Nat->UInt8)(R:List Nat)(D L:Nat)(l:List Nat):
  zNa sh (zDa D L R l) (fun r=>if r<R.length then sh (R.getD r 0)else fun _=>0,[])=(zPN sh R D L l,zTD sh R D L l):=by
 refine zFI (P:=fun l=>zNa sh (zDa D L R l) (fun r=>if r<R.length then sh (R.getD r 0)else fun _=>0,[])=(zPN sh R D L l,zTD sh R D L l)) ?_ (fun l a ih=>?_) l
 ·refine Prod.ext ?_ rfl
  funext r
  show(if r<R.length then _ else _)=zPN sh R D L [] r;unfold zPN;by_cases h:r<R.length;{rw[yq h,yq h]};{rw[yl h,yl h,yl (by simpa using h)]}
 ·rw[zEg,zBY,ih,zRj,zBY,zK5 sh _ _ _ _ _ zo];show zIr sh _ _=_;unfold zIr zGi;have O:∀t,dot R.length (fun j=>zPN sh R D L l j t) (byV D L R a)=dot R.length (fun j=>sh (R.getD j 0) t) (byV D L R a):=fun t=>
   zBg (fun j Z=>by unfold zPN;rw[yq Z]) fun _ _=>rfl
  have V:zPN sh R D L l (R.length+l.length)=fun _=>0:=(by unfold zPN;rw[yl zo,yl zo]);simp only[show((2:UInt8).toNat=2)from rfl,yAy,yBa,V,O];refine Prod.ext ?_ ?_
  ·funext r
   simp only[show ¬(2=0)by omega,show ¬(2=1)by omega,if_false];by_cases h:r=R.length+l.length
   ·subst h;rw[yq rfl];unfold zPN;rw[yl zo,yq zs]
    funext t
    simp[yg]
   {rw[yl h];unfold zPN;by_cases u:r<R.length;{rw[yq u,yq u]};{rw[yl u,yl u];by_cases J:r<R.length+l.length;{rw[yq J,yq (by simp;omega)];have:r - R.length<l.length:=zo;simp[yg,yQ this]};{rw[yl J,yl (by simp;omega)]}}}
  {simp[zTD]}
theorem zPp(sh:Nat->Nat->UInt8)(D L N x:Nat):
  zDX sh (fun t=>(zAF D L N x).getD t Sd) (zAF D L N x).length=zTD sh (zAV D L N x) D L (zAx N x):=by
 rw[zPn,zAF,zBY,zNb,zPo]
theorem zRk{D L:Nat}{R:List Nat}{i:Nat}(h:Sp (RL D (zN D L) R) (tr D (zN D L) i)):
  ∀q,(zAh D (eqM R.length (fun k=>zN D L (R.getD k 0)) (zN D L i)) R.length).2.length≤q->q<D->(zAh D (eqM R.length (fun k=>zN D L (R.getD k 0)) (zN D L i)) R.length).1 q R.length=0:=by
 have O:Sp (Lin.Rows R.length (nth D (zN D L) R)) (tr D (zN D L) i):=h.mono fun r Z=>.row (zIM.2 Z);obtain⟨y,V⟩:=zNT O;have J:=zRh (n:=R.length) (M:=fun k=>zN D L (R.getD k 0)) y;refine(zHo (D:=D) (t:=zN D L i) ⟨_,J,fun j u=>?_⟩).1;have:=V j;unfold tr nth tr at this;rw[yq u]at this;rw[this];exact zBg (fun k _=>by simp only[yq u]) fun _ _=>rfl
theorem zNc{u n:Nat}{y:Vec}(h:s∈zEE u n y):∃j,j<n∧s=⟨1,(u:Int),(j:Int),y j⟩:=by
 unfold zEE at h;obtain⟨j,J,rfl⟩:=List.mem_map.1 h;exact⟨j,by simpa using(List.mem_filter.1 J).1,rfl⟩
theorem zFf{D L:Nat}{R l:List Nat}(h:s∈zDa D L R l):∃u,u<l.length∧((∃j,j<R.length∧∃c,s=⟨1,(R.length+u:Nat),(j:Int),c⟩)∨s=⟨2,(R.length+u:Nat),(l.getD u 0:Nat),0⟩):=by
 unfold zDa at h;obtain⟨u,J,hs⟩:=List.mem_flatMap.1 h;refine⟨u,by simpa using J,?_⟩;unfold zRj at hs;rcases List.mem_append.1 hs with hs | hs;{obtain⟨j,O,rfl⟩:=zNc hs;exact .inl ⟨j,O,_,rfl⟩};{exact .inr (by simpa using hs)}
theorem zG0{R:List Nat}(h:s∈zA3 R):∃t,t<R.length∧s=⟨0,(t:Int),(R.getD t 0:Nat),0⟩:=by
 unfold zA3 at h;obtain⟨t,u,rfl⟩:=List.mem_map.1 h;exact⟨t,by simpa using u,rfl⟩
theorem zEF{D L N x i:Nat}(h:i∈zAV D L N x):i<N:=(zY.1 h).1
theorem zK6{N x i:Nat}(h:i∈zAx N x):i<N:=(zY.1 h).1
theorem zPq{D L N x:Nat}(h:∀b,(zBJ D L N x).testBit b=true->x.testBit b=false):zBh D L N x≤N:=by
 unfold zBh zAV zAx;have e:∀n,(sel n (zBJ D L N x).testBit).length+(sel n x.testBit).length≤n:=(by intro n;(induction n with |zero=>(simp[sel])|succ n ih=>(rw[zAY,zAY];by_cases u:(zBJ D L N x).testBit n=true;{rw[yq u,yl (by rw[h n u];simp)];simp;omega};{rw[yl u];split;{rw[yB,yZ];omega};{omega}})));exact e N
theorem zFg{P:List Stp}{i:Nat}(h:i<P.length):P.getD i Sd∈P:=by
 rw[yg,yx h];exact yAo h
theorem zNd{D L N x:Nat}(hN:N≤16)(h:∀b,(zBJ D L N x).testBit b=true->x.testBit b=false):
  OkP (zBh D L N x) (zAF D L N x).length (fun t=>(zAF D L N x).getD t Sd) (N:Int):=by
 have hb:=zPq h;have h1:=zAw N (zBJ D L N x).testBit;have h2:=zAw N x.testBit;have V:(zAF D L N x).length≤2000:=(by unfold zAF;rw[yB,zEh];have h3:=zIq D L (zAV D L N x) (zAx N x);have h4:(zAx N x).length*((zAV D L N x).length+1)≤16*17:=yAJ (by unfold zAx;omega) (by unfold zAV;omega);have:(zAV D L N x).length≤16:=(by unfold zAV;omega);omega);refine⟨zo,zo,V,fun i hi=>?_⟩;have J:=zFg hi;show zAj _ _ ((zAF D L N x).getD i Sd);generalize(zAF D L N x).getD i Sd=s at *;unfold zAF at J;rcases List.mem_append.1 J with J | J;{obtain⟨t,Z,rfl⟩:=zG0 J;have hr:=zEF (zCB Z);refine⟨zs,?_,.inl ⟨.inl rfl,by simp only;omega,by simp only;omega⟩⟩;show(t:Int)<(zBh D L N x:Nat);unfold zBh;omega};{obtain⟨u,O,(⟨j,hj,c,rfl⟩ | rfl)⟩:=zFf J;{refine⟨by simp only;omega,?_,.inr ⟨rfl,zs,?_,?_⟩⟩;{show(((zAV D L N x).length+u:Nat):Int)<(zBh D L N x:Nat);unfold zBh;omega};{show(j:Int)<(zBh D L N x:Nat);unfold zBh;omega};{show(((zAV D L N x).length+u:Nat):Int)≠(j:Int);omega}};{have hr:=zK6 (zCB O);refine⟨by simp only;omega,?_,.inl ⟨.inr rfl,by simp only;omega,by simp only;omega⟩⟩;show(((zAV D L N x).length+u:Nat):Int)<(zBh D L N x:Nat);unfold zBh;omega}}
end Go.Proofs.YtonfdlhikinldaaGreatDoor
namespace Go.Proofs.YtonfdlhikinldaaGreatDoor
open Go Go.RowKit Go.Proofs Lin Go.Proofs.Tryz
variable {b t:Nat}
theorem zKV:(prog.info? 249).map (fun i=>(i.zero,i.size,i.bytes))=some (some (.agg #[.int .u8 0,.int .i64 0,.int .i64 0,.int .u8 0]),4,32):=by kernel_rfl
structure Pg (base J:Nat) (W:zw) (P:List Stp) (u:Nat) (v:Value):Prop where
 par:zC3 W J 116 (I u) v
 vs:V4 W base 249 v P.length (fun i=>sc (P.getD i Sd))
 hgb:base≤J
 hW:base≤W.heap.size
def PgG(base u:Nat)(W:zw):Nat->Prop:=fun b=>b=u∨base≤b∧Kd W b 249
def zAR(base u:Nat)(W J:zw):Prop:=Upd (PgG base u W) W J
theorem zCp{W:zw}{b t u:Nat}(h:Kd W b t)(h':Kd W b u):t=u:=by
 obtain⟨c,h⟩:=h;obtain⟨J,h'⟩:=h';rw[h]at h';cases h';rfl
theorem Kd.back{W u:zw}(h:Kd u b t)(e:u.heap[b]? =W.heap[b]?):Kd W b t:=by
 obtain⟨cs,h⟩:=h;exact⟨cs,e▸h⟩
section
variable {base gb:Nat} {W W' W2:zw} {P:List Stp} {regs:Nat} {v:Value}
theorem zAR.refl(base u:Nat)(W:zw):zAR base u W W:=Upd.refl _ _
theorem zAR.trans(h:zAR base gb W W')(k:zAR base gb W' W2):zAR base gb W W2:=by
 refine Upd.trans h k fun b Z u=>?_;rcases Z with e | ⟨O,V⟩;{exact .inl e};{by_cases J:PgG base gb W b;{exact J};{exact .inr ⟨O,V.back (h.block b u J)⟩}}
theorem zAR.of_below(h:Below W W W'):zAR base gb W W':=(Upd.of_below h).mono (fun b _ e=>e.elim)
theorem zAR.box(h:zAR base gb W W'){u:Value}(O:Boxed W b t u)(V:t≠249)(J:b≠gb):Boxed W' b t u:=
 zJP O h (fun e=>by rcases e with e | ⟨_,e⟩;exact J e;exact V (zCp (zM3 O) e))
theorem zAR.pair(h:zAR base gb W W'){x y:Value}(J:zC3 W b t x y)(O:t≠249)(u:b≠gb):zC3 W' b t x y:=
 J.upd h (fun e=>by rcases e with e | ⟨_,e⟩;exact u e;exact O (zCp J.kd e))
theorem zAR.kd(h:zAR base gb W W')(J:Kd W b t)(O:t≠249)(u:b≠gb):Kd W' b t:=
 J.upd h (fun e=>by rcases e with e | ⟨_,e⟩;exact u e;exact O (zCp J e))
theorem zAR.rd(h:zAR base gb W W'){b o n:Nat}{f:Nat->Value}(Z:Rd W b o n f){t:Nat}(V:0<n->Kd W b t)(O:t≠249)(u:0<n->b≠gb):Rd W' b o n f:=
 Z.upd h (fun J e=>by rcases e with e | ⟨_,e⟩;exact u J e;exact O (zCp (V J) e))
theorem zAR.below(h:zAR base gb W W')(J:base≤gb)(u:base≤W.heap.size):Below base W W':=
 Upd.below h (fun b e=>by rcases e with e | e;omega;exact e.1) u
theorem zAR.keeps(h:zAR base gb W W'){t:Nat}(u:Kd W gb t)(B:Nat):KeepsFrom B W W':=
 zAq h (fun b e=>by
  rcases e with rfl | ⟨_,e⟩
  ·obtain⟨cs,h⟩:=u;exact⟨_,_,_,h⟩
  ·obtain⟨cs,h⟩:=e;exact⟨_,_,_,h⟩) B
theorem zAR.kn(h:zAR base gb W W')(h1:base≤gb)(Z:base≤W.heap.size){J t:Nat}{u:Value}(V:Boxed W J t u)(ht:t≠249)(O:J≠gb):KpX base J W W':=
 zPC h V.lt (fun e=>by rcases e with e | ⟨_,e⟩;exact O e;exact ht (zCp (zM3 V) e)) (h.below h1 Z)
theorem Pg.later(h:Pg base gb W P regs v)(u:Below W W W'):Pg base gb W' P regs v:=⟨h.par.later u,h.vs.later u,h.hgb,yC h.hW u.size⟩
theorem zH7{w:zw}{b e n:Nat}{v:Value}{f:Nat->Nat->Value}(h:V4 w b e v n f):∀k,v.ownBlock=some k->b≤k∧Kd w k e:=fun k hk=>by
 refine⟨(h.lt k hk).1,?_⟩;rcases h.2 with⟨rfl,_⟩ | ⟨g,J,u,rfl,_,O,_⟩
 ·simp[Value.ownBlock]at hk
 ·obtain rfl:g=k:=by simpa[Value.ownBlock]using hk
  exact⟨u,O⟩
theorem Pg.push(h:Pg base gb W P regs v){u:zw}{J:Value}(s:Stp)(hv:V4 u base 249 J (P.length+1) (fun i=>if i<P.length then sc (P.getD i Sd)else sc s))(V:Upd (fun b=>some b=v.ownBlock) W u):
  Pg base gb (u.setCell (gb,1) J) (P++[s]) regs J∧zAR base gb W (u.setCell (gb,1) J)∧u.cell? (gb,1)=some v∧u.frozen? (gb,1)=false:=by
 have a0:¬some gb=v.ownBlock:=fun e=>h.vs.qa h.par.kd zd _ e.symm rfl;have O:=h.par.upd V a0;have hU:=(Upd.refl (fun b=>b=gb) u).setCell (a:=⟨gb,1,none⟩) (fun _=>rfl) J;refine⟨⟨O.ja J,?_,h.hgb,yC (yC h.hW V.size) hU.size⟩,?_,O.c1,O.f1⟩;{rw[yB,yZ];refine(hv.kept hU fun t Z e=>hv.qa O.kd zd t Z e).congr fun i hi j _=>?_;by_cases e:i<P.length;{rw[yq e];simp[yg,yQ e]};{obtain rfl:i=P.length:=zo;rw[yl e];simp[yg]}};{exact Upd.trans (V.mono (H:=PgG base gb W) fun b _ e=>.inr (zH7 h.vs b e.symm)) (hU.mono (H:=fun b=>b=gb) fun b _ e=>e) fun b e _=>.inl e}
def cl(k:Nat)(a b:Int)(c:Value)(j:Nat):Value:=if j=0 then .int .u8 (k:Int)else if j=1 then I a else if j=2 then I b else c
theorem zUl(k:Nat)(hk:k<256)(a b:Int)(c:UInt8):∀j,j<4->cl k a b (B c) j=sc ⟨UInt8.ofNat k,a,b,c⟩ j:=by
 intro j u;rcases(show j=0∨j=1∨j=2∨j=3 by omega)with rfl | rfl | rfl | rfl;{show Value.int .u8 (k:Int)=Value.int .u8 ((UInt8.ofNat k).toNat:Int);rw[yAl,yAz zo]};{rfl};{rfl};{rfl}
theorem zOf(k:Nat)(a b:Int)(c:Value)(hc:c.oneCell'=true):∀j,j<4->(cl k a b c j).oneCell'=true:=by
 intro j u;rcases(show j=0∨j=1∨j=2∨j=3 by omega)with rfl | rfl | rfl | rfl;{rfl};{rfl};{rfl};{exact hc}
theorem Pg.jd(h:Pg base gb W P regs v){u:zw}{J:Value}(k:Nat)(hk:k<256)(a b:Int)(c:UInt8)(hv:V4 u base 249 J (P.length+1) (fun i=>if i<P.length then sc (P.getD i Sd)else cl k a b (B c)))(O:Upd (fun b=>some b=v.ownBlock) W u):
  Pg base gb (u.setCell (gb,1) J) (P++[⟨UInt8.ofNat k,a,b,c⟩]) regs J∧zAR base gb W (u.setCell (gb,1) J)∧u.cell? (gb,1)=some v∧u.frozen? (gb,1)=false:=
 h.push _ (hv.congr fun i Z j V=>by
  by_cases e:i<P.length
  ·rw[yq e,yq e]
  ·rw[yl e,yl e];exact zUl k hk a b c j V) O
theorem zC3.q9{w:zw}{x y:Value}(h:zC3 w b t x y)(v:Value):zC3 (w.setCell b v) b t v y:=
 ⟨zAA h.c0 v,by rw[zCJ zo];exact h.c1,by rw[zBv];exact h.f0,by rw[zBv];exact h.f1,h.kd.set _ _⟩
theorem Pg.reg(h:Pg base gb W P regs v):Pg base gb (W.setCell gb (I (regs+1:Nat))) P (regs+1) v∧zAR base gb W (W.setCell gb (I (regs+1:Nat))):=by
 have u:Upd (fun b=>b=gb) W (W.setCell gb (I (regs+1:Nat))):=(Upd.refl (fun b=>b=gb) W).setCell (a:=gb) (fun _=>rfl) _;exact⟨⟨h.par.q9 _,h.vs.kept u fun t J e=>h.vs.qa h.par.kd zd t J e,h.hgb,yC h.hW u.size⟩,u.mono (H:=PgG base gb W) fun b _ e=>.inl e⟩
theorem zRL{α:Type}(base gb:Nat)(Pf:α->List Stp)(rf:α->Nat):Own (fun(s:α) W=>∃v,Pg base gb W (Pf s) (rf s) v):=by
 intro s X Y J hs hg u;obtain⟨v,h⟩:=hs;have O:=Upd.of_grown hg;have Z:∀b t,Kd X b t->¬some b=J:=fun b t hk e=>(by obtain⟨o,V,hc⟩:=u b e.symm;obtain⟨cs,h⟩:=hk;rw[h]at V;cases V;cases hc);exact⟨v,h.par.upd O (Z _ _ h.par.kd),h.vs.kept O fun k hk=>Z _ _ (zH7 h.vs k hk).2,h.hgb,yC h.hW hg.size⟩
end
end Go.Proofs.YtonfdlhikinldaaGreatDoor
