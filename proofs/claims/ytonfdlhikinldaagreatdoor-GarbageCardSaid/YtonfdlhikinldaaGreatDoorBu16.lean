import Derived.Test.YtonfdlhikinldaaGreatDoorBu08
import Derived.Test.YtonfdlhikinldaaGreatDoorBu02
import Derived.RangeFuncBox
import Derived.RangeFuncLeaves
import Derived.RangeFuncCalls
import Derived.Shelf.Abstract
import Derived.OwnWalkIn
import Derived.TacticsInMore
import Derived.LoopNIn
import Derived.LoopIn
import Derived.RangeFuncWrites
import Derived.Sort.EveryDepth
set_option maxRecDepth 100000
set_option linter.all false
set_option linter.unusedVariables false
set_option maxHeartbeats 16000000
namespace Go.Proofs.YtonfdlhikinldaaGreatDoor
open Go.RowKit Go.Proofs Lin Go.Shelf Go.Proofs.Tryz
variable {v:Value}{p:Nat->Bool}{n:Nat}{n₀ u:Nat}{k:Nat}
attribute [local go_sem] Oper.semAt_some
def sel(n:Nat)(p:Nat->Bool):List Nat:=(List.range n).filter p
theorem zAY(n:Nat)(p:Nat->Bool):sel (n+1) p=if p n then sel n p++[n]else sel n p:=by
 unfold sel;rw[List.range_succ,List.filter_append];by_cases h:p n<;>simp[h]
theorem zSu(h:k≤n):(sel k p).length≤(sel n p).length:=by
 (induction n with |zero=>(rw[show k=0 by omega];exact yb _)|succ n ih=>(by_cases e:k=n+1;{rw[e];exact yb _};{have:=ih zo;rw[zAY];split<;>simp<;>omega}))
theorem zJv(h:k<n)(u:p k=true):(sel k p).length<(sel n p).length:=by
 have:=zSu (p:=p) (show k+1≤n from h);rw[zAY,yq u]at this;simp at this;omega
theorem zAw(n:Nat)(p:Nat->Bool):(sel n p).length≤n:=by
 have:=List.length_filter_le p (List.range n);simpa[sel]using this
theorem zEc{n k:Nat}(h:k≤n):sel k p<+:sel n p:=by
 (induction n with |zero=>(rw[show k=0 by omega];exact List.prefix_refl _)|succ n ih=>(by_cases e:k=n+1;{rw[e];exact List.prefix_refl _};{have u:=ih zo;rw[zAY];split;{exact u.trans (List.prefix_append _ _)};{exact u}}))
theorem zY{i:Nat}:i∈sel n p↔i<n∧p i=true:=by simp[sel]
theorem zKq(F:Fence)(n:Nat)(V:F.fn 109)(u:F.round=none)(x i:Nat)(J:x<2^64)(Z:i<64)(w:zw):
  CallsIn F n prog 109 #[U x,I i] w fun e w'=>e=.returned (.bool (x.testBit i))∧w'=w:=by
 have O:=zz (zJi x i J);refine callsIn_of_wp func109 rfl V ?_ u;simp only[ntmps109,yX,yF,yK,Nat.reduceAdd,Nat.reduceSub,yO,yN,yAd,yT,yAe,yAb];gi_wp2;go_ret;exact⟨by rw[<-O.o];rfl,rfl⟩
theorem zRU(F:Fence)(n:Nat)(hF:F.fn 115)(hH:F.fn 109)(V:F.round=none)(hn:1≤n)(l bn bx:Nat)(N x:Nat)(hx:x<2^64)(hN:N<64)(Kp:World->World->Prop)(a5:∀A B,Kp A B->A.cell? bx=some (U x)->B.cell? bx=some (U x))(J Jx:List Nat->World->Prop)
  (hY:∀u i W,i<N->J u W->u.length<(sel N x.testBit).length->YieldAt F (n - 1) prog l #[I (i:Nat)] W fun e Z=>
   (e=.returned (.bool true)∧J (u++[i]) Z∧Kp W Z)∨(e=.returned (.bool false)∧Jx (u++[i]) Z))
  (W:zw)(b1:W.cell? bn=some (I N))(a8:W.cell? bx=some (U x))(h0:J [] W):
  CallsIn F n prog 115 #[.func (.yield l) #[] #[],bn,bx] W fun e Z=>(∃v,e=.returned v)∧
   ((∃ys,ys=sel N x.testBit∧J ys Z)∨(∃u,u<+:sel N x.testBit∧Jx u Z)):=by
 refine callsIn_of_wp func115 rfl hF ?_ V;simp only[ntmps115,yX,yF,yK,Nat.reduceAdd,Nat.reduceSub,yO,yN,yAd,yT,yAe,yAb];gi_wp2
 gi_loopw [6] (fun p wr=>∃k:Nat,k≤N∧p=I k∧J (sel k x.testBit) wr∧wr.cell? bx=some (U x))
  (fun p _=>N - (intOf p).toNat)
 (case atStart=>exact⟨0,zo,rfl,h0,a8⟩);(case round=>obtain⟨k,hk,rfl,hJ,O⟩:=hrel;by_cases a0:k<N;{have e1:=zAY k x.testBit;by_cases hb:x.testBit k=true;{have a1:=zJv a0 hb;rw[yq hb]at e1;obtain⟨fn,tmps,a4,b0,hy,hR⟩:=hY (sel k x.testBit) k wr a0 hJ a1;gi_wp2_with (gi_at_call 109;refine(zKq F (n - 1) hH V x k hx zo _).mono ?_;rintro e w' ⟨rfl,rfl⟩;rw[hb]);refine hR.mono ?_;rintro e W3 (⟨rfl,a6,a7⟩ | ⟨rfl,a2⟩);{have a3:=a5 _ _ a7 O;gi_wp2;go_roundw;(case rel=>exact⟨k+1,zo,by go_num,by rw[e1];exact a6,a3⟩);(case measure=>simp[intOf];omega)};{gi_wp2;refine yAg (yBA rfl _ _ _) rfl ?_;refine⟨⟨_,rfl⟩,.inr ⟨sel k x.testBit++[k],?_,a2⟩⟩;rw[<-e1];exact zEc zo}};{have a9:x.testBit k=false:=(by simpa using hb);rw[yl hb]at e1;gi_wp2_with (gi_at_call 109;refine(zKq F (n - 1) hH V x k hx zo _).mono ?_;rintro e w' ⟨rfl,rfl⟩;rw[a9]);refine⟨(fun f hf=>by cases hf),?_⟩;gi_wp2;go_roundw;(case rel=>exact⟨k+1,zo,by go_num,by rw[e1];exact hJ,O⟩);(case measure=>simp[intOf];omega)}};{obtain rfl:N=k:=zo;gi_wp2;go_end0;exact⟨⟨_,rfl⟩,.inl ⟨_,rfl,hJ⟩⟩})
theorem zIV(F:Fence)(n:Nat)(J:F.fn 84)(u:F.round=none)(x N:Nat)(w:zw):
  CallsIn F n prog 84 #[U x,I N] w fun e w'=>e=.returned (.func (.func 115) #[] #[.pointer (zp (w.heap.size+1)),w])∧
   w'=(w.alloc (.cells #[U x] 111)).alloc (.cells #[I N] 3):=by
 refine callsIn_of_wp func84 rfl J ?_ u;simp only[ntmps84,yX,yF,yK,Nat.reduceAdd,Nat.reduceSub,yO,yN,yAd,yT,yAe,yAb];gi_wp2;go_ret;exact⟨rfl,rfl⟩
theorem zFQ(F:Fence)(n:Nat)(hF:F.fn 115)(hH:F.fn 109)(b1:F.round=none)(hn:1≤n)(Z V:Nat)(N x:Nat)(hx:x<2^64)(hN:N<64)(Kp:World->World->Prop)(a5:∀A B,Kp A B->A.cell? V=some (U x)->B.cell? V=some (U x))(w:zw)(a9:Z<w.heap.size)(a6:V<w.heap.size)
  (a4:w.cell? Z=some (I N))(b0:w.cell? V=some (U x)):
  SeqStopsK F n prog 115 #[Z,V] (fun i:{i:Nat // i<N}=>#[I (i.1:Nat)]) Kp (fun ys=>ys.map (·.1)=sel N x.testBit) (fun a3=>a3.map (·.1)<+:sel N x.testBit) (sel N x.testBit).length w:=fun l J Jx W hW _ _ hY h0=>by
 refine(zRU F n hF hH b1 hn l Z V N x hx hN Kp a5 (fun l W=>∃u,u.map (·.1)=l∧J u W) (fun l W=>∃u,u.map (·.1)=l∧Jx u W) ?_ W ((hW.cell (p:=Z) a9).trans a4) ((hW.cell (p:=V) a6).trans b0) ⟨[],rfl,h0⟩).mono ?_
 ·rintro a3 i W' hi ⟨u,rfl,hJ⟩ a0;obtain⟨fn,tmps,O,a1,hy,hR⟩:=hY u ⟨i,hi⟩ W' hJ (by simpa using a0);refine⟨fn,tmps,O,a1,hy,hR.mono ?_⟩;rintro e W3 (⟨he,a7,a8⟩ | ⟨he,a2⟩)
  ·exact .inl ⟨he,⟨_,zs,a7⟩,a8⟩
  ·exact .inr ⟨he,⟨_,zs,a2⟩⟩
 ·rintro e W3 ⟨hv,h⟩;refine⟨hv,?_⟩;rcases h with⟨_,rfl,u,hl,hJ⟩ | ⟨_,hp,u,rfl,hJ⟩
  ·exact .inl ⟨u,hl,hJ⟩
  ·exact .inr ⟨u,hp,hJ⟩
def KpX(n₀ u:Nat)(A B:zw):Prop:=Below n₀ A B∧∀o,A.heap[u]? =some o->B.heap[u]? =some o
theorem KpX.t{A B C:zw}(h:KpX n₀ u A B)(k:KpX n₀ u B C):KpX n₀ u A C:=⟨h.1.trans k.1,fun o J=>k.2 o (h.2 o J)⟩
theorem KpX.b{w:zw}(hn:n₀≤w.heap.size)(hx:u<w.heap.size)(W:zw)(l:Nat)(o J:Obj)(Z:w.heap.size≤l)(h:W.heap[l]? =some o)(V:o.isCells=false)(O:o.isWalk=false):KpX n₀ u W (W.putObj l J):=
 ⟨belowK_b hn W l o J Z h V O,fun q hq=>by rw[World.putObj_heap_other zo];exact hq⟩
theorem KpX.cell{A B:zw}(h:KpX n₀ u A B)(hc:A.cell? u=some v):B.cell? u=some v:=by
 have J:u<A.heap.size:=yt _ _ hc;have O:=yBE J;rw[<-hc];exact yk ((h.2 _ O).trans O.symm)
attribute [local go_sem] Oper.semAt_some
theorem zOZ(F:Fence)(n:Nat)(J:F.fn 8)(u:F.round=none)(D L G:Int)(h:0≤D∧D≤1000∧0≤L∧L≤1000∧0≤G∧G≤1000)(w:zw):
  CallsIn F n prog 8 #[PV D L G] w fun e w'=>e=.returned (I (D+L+G))∧Below w w w':=by
 obtain⟨V,O,h3,Z,h5,h6⟩:=h;refine callsIn_of_wp func8 rfl J ?_ u;simp only[ntmps8,yX,yF,yK,Nat.reduceAdd,Nat.reduceSub,yO,yN,yAd,yT,yAe,yAb];gi_wp2;go_ret;exact⟨rfl,(yh _ _).alloc (yb _) _⟩
theorem zJ{W u:zw}{n B:Nat}{t:TypeId}(h:Boxed W B t v)(J:Below n W u)(O:B<n):Boxed u B t v:=(J.block B O).trans h
theorem zM3{W:zw}{B:Nat}{t:TypeId}(h:Boxed W B t v):Kd W B t:=⟨_,h⟩
theorem Upd.j6{G:Nat->Prop}{W u:zw}(h:Upd G W.drew u):Upd G W u:=⟨h.os,h.tape,h.output,h.size,h.block⟩
theorem zJP{W u:zw}{G:Nat->Prop}{B:Nat}{t:TypeId}(h:Boxed W B t v)(J:Upd G W u)(O:¬G B):Boxed u B t v:=(J.block B h.lt O).trans h
theorem zCe{α:Type}(B:Nat)(t:TypeId)(v:Value):Own (fun(_:α) W=>Boxed W B t v):=fun s X Y O hs V u=>
 hs.kept V (fun Z=>by obtain⟨o,J,hc⟩:=u B Z.symm;rw[show X.heap[B]? =_ from hs]at J;cases J;cases hc)
theorem zOa{w:zw}{base e:Nat}{f:Nat->Value}(h:Vc w base e v n f)(hk:v.ownBlock=some k):∃c,w.heap[k]? =some (.cells c e (0,0)):=by
 rcases h.2 with⟨rfl,_⟩ | ⟨g,J,u,rfl,_,O,_⟩;{simp[Value.ownBlock]at hk};{obtain rfl:g=k:=(by simpa[Value.ownBlock]using hk);exact⟨u,O⟩}
theorem zJQ(l:List Nat)(a j:Nat):(l++[a]).getD j 0=if j<l.length then l.getD j 0 else if j=l.length then a else 0:=by
 simp only[yg];by_cases h:j<l.length;{rw[yq h,yQ h]};{rw[yl h,yAC zo];by_cases e:j=l.length;{rw[yq e];simp[e]};{rw[yl e,yBC (by simp;omega)];rfl}}
theorem zAv{W:zw}{p:Addr}(h:W.cell? p=some v)(o:Obj):(W.alloc o).cell? p=some v:=
 (yk (Deep.blk_alloc_lt _ _ _ (yt _ _ h))).trans h
theorem zQT{base u bx bc:Nat}{W Z:zw}{v' O vC vX:Value}{D n:Nat}{f g:Nat->Value}{w:zw}(a1:base=w.heap.size)(hv:Boxed W u 141 v')(J:Vc W base 31 v' n f)(hC:Boxed W bc 105 vC)(hX:Boxed W bx 111 vX)
  (hB:Below w w W)(a5:base≤u)(h1:u≠bc)(h2:u≠bx)(a3:Vc Z base 31 O (n+1) g)(a2:Upd (fun b=>some b=v'.ownBlock) W Z)(B:Nat):
  KeepsFrom B W (Z.setCell u O)∧KpX w bx W (Z.setCell u O)∧(∃v,Boxed (Z.setCell u O) u 141 v∧Vc (Z.setCell u O) base 31 v (n+1) g)∧
   Boxed (Z.setCell u O) bc 105 vC∧Boxed (Z.setCell u O) bx 111 vX∧Below w w (Z.setCell u O):=by
 have a6:=a1▸hB.size;have no:¬some u=v'.ownBlock:=fun e=>J.qa (zM3 hv) zd u e.symm rfl;have nC:¬some bc=v'.ownBlock:=fun e=>J.qa (zM3 hC) zd bc e.symm rfl;have nX:¬some bx=v'.ownBlock:=fun e=>J.qa (zM3 hX) zd bx e.symm rfl;have a4:=zJP hv a2 no;have V:Upd (fun b=>some b=v'.ownBlock∨b=u) W (Z.setCell u O):=(a2.mono fun b _ e=>.inl e).setCell (a:=u) (fun _=>.inr rfl) O;have a0:Below w W (Z.setCell u O):=V.below (fun b e=>by
  rcases e with e | e
  ·have:=(J.lt b e.symm).1;omega
  ·omega) zo
 refine⟨⟨V.size,fun k o _ hk ho=>(V.block k (Array.getElem?_eq_some_iff.1 hk).1 fun e=>?_).trans hk⟩,⟨a0,fun o ho=>?_⟩,⟨O,a4.set O,a3.kept ((Upd.refl (fun b=>b=u) Z).setCell (a:=u) (fun _=>rfl) O) fun t ht e=>?_⟩,zJP hC V ?_,zJP hX V ?_,hB.trans a0⟩;{rcases e with e | e;{obtain⟨c,hc⟩:=zOa J e.symm;rw[hc]at hk;cases hk;cases ho};{subst e;rw[show W.heap[k]? =_ from hv]at hk;cases hk;cases ho}};{exact(V.block bx hX.lt (fun e=>by rcases e with e | e;exact nX e;exact h2 e.symm)).trans ho};{exact a3.qa (zM3 a4) zd t ht e};{rintro(e | e);{exact nC e};{exact h1 e.symm}};{rintro(e | e);{exact nX e};{exact h2 e.symm}}
def Got(base J:Nat)(D:Nat)(β:Nat->Nat)(u:List Nat)(W:zw):Prop:=
 ∃v,Boxed W J 141 v∧Vc W base 31 v u.length (fun t=>.slice (some ⟨β (u.getD t 0),0,none⟩) D D)
theorem zSH{α:Type}(f:α->List Nat)(base bo D:Nat)(β:Nat->Nat):Own (fun(s:α) W=>Got base bo D β (f s) W):=by
 intro s X Y O hs hg J;obtain⟨v,V,Z,h3⟩:=holdsRow_own (β:=List Nat) base bo 141 31 1 (fun u=>u.length) (fun u=>(List.range u.length).map fun t=>.slice (some ⟨β (u.getD t 0),0,none⟩) D D) (fun _ _=>True) (f s) X Y O (by obtain⟨v,V,Z⟩:=hs;exact⟨v,V,Z,yAf⟩) hg J;exact⟨v,V,Z⟩
def zOb(w:zw)(D L G x:Nat)(β:Nat->Nat)(e:Ending)(w':zw):Prop:=
 ∃u,e=.returned u∧Vc w' w 31 u (sel (D+L+G) x.testBit).length (fun t=>.slice (some ⟨β ((sel (D+L+G) x.testBit).getD t 0),0,none⟩) D D)∧Below w w w'
theorem zUj(F:Fence)(n:Nat)(f1:F.fn 124)(f2:F.fn 84)(f3:F.fn 115)(f4:F.fn 109)(f5:F.fn 8)(a0:F.round=none)(hn:3≤n)
  (w0:zw)(V D L G x:Nat)(v:Value)(β:Nat->Nat)(w:zw)(hC:zAT w0 w V D L G v β)(hR:zA6 D L G)(hx:x<2^64):
  CallsIn F n prog 124 #[V,U x] w (zOb w D L G x β):=by
 have h1:=hR.d1;have h2:=hR.d2;have h3:=hR.l1;have h4:=hR.l2;have h5:=hR.g2;have h7:=hR.sum;clear hR;have n1:1≤n:=zo;have HC:=zz hC;clear hC;have b5:=HC.o.kd.lt;have c0:w.cell? V=some (I D):=HC.o.par.cell 0 zo;have c1:w.cell? (V,1)=some (I L):=HC.o.par.cell 1 zo;have c2:w.cell? (V,2)=some (I G):=HC.o.par.cell 2 zo;refine callsIn_of_wp_marks func124 rfl f1 ?_ a0;simp only[ntmps124,yX,yF,yK,Nat.reduceAdd,Nat.reduceSub,yO,yN,yAd,yT,yAe,yAb];have hN:((D:Int)+L+(G:Int))=((D+L+G:Nat):Int):=zs;have a5:=zz hN;clear hN;gi_wp2_with (first | (gi_at_call 8;refine(zOZ F (n - 1) f5 a0 D L G zo _).mono ?_;rintro e Z ⟨rfl,hb⟩;have HB:=zz hb;clear hb;rw[a5.o]) | (gi_at_call 84;refine(zIV F (n - 1) f2 a0 x (D+L+G) _).mono ?_;rintro e w2 ⟨rfl,rfl⟩));obtain⟨va,vb,vc,hv,a8,a9,_,_,_⟩:=HC.o.gm.vc.shape;obtain rfl:=a8 zo;have c3:w.cell? (V,3)=some (.slice vb (D+L+G) vc):=(by have:=HC.o.at3.cell 0 zo;rw[<-hv];simpa using this)
 have HR:=zz a9.rd;clear hv a9 a8;have b1:=HB.o.size;rw[yw,yw]at b1;have b3:=zy (Below w w Z) ((((yh _ w).alloc (yb _) _).alloc zs _).trans (HB.o.mono (by simp;omega)));have bC:=zz (zJ ((Boxed.new w 105 (.pointer (zp V))).alloc (.cells #[.slice none 0 0] 141)) HB.o (by simp;omega));have bM:=zy (Boxed Z (w.heap.size+1) 141 (.slice none 0 0)) (by have h:=zJ (Boxed.new (w.alloc (.cells #[V] 105)) 141 (.slice none 0 0)) HB.o zs;rwa[yw]at h);have bX:=zz ((Boxed.new Z 111 (U x)).alloc (.cells #[I ((D:Int)+L+(G:Int))] 3));have bN:=zy (Boxed ((Z.alloc (.cells #[U x] 111)).alloc (.cells #[I ((D:Int)+L+(G:Int))] 3)) (Z.heap.size+1) 3 (I ((D:Int)+L+(G:Int)))) (by have h:=Boxed.new (Z.alloc (.cells #[U x] 111)) 3 (I ((D:Int)+L+(G:Int)));rwa[yw]at h);refine wpIn_rangeFunc_ownG a0 n1 (gf:=115) (lb:=#[.pointer (zp (Z.heap.size+1)),Z]) rfl f3 (enters_of func115 zk rfl)
  (zFQ F (n - 1) f3 f4 a0 zo (Z.heap.size+1) Z (D+L+G) x hx zo (KpX w Z) (fun A B h hc=>h.cell hc) _ zs (by simp;omega) (by rw[<-a5.o];exact bN.o.cell) bX.o.cell)
  KpX.t (KpX.b (by simp;omega) (by simp;omega)) (yh _ _) (fun _=>rfl)
  (fun(J:List {i:Nat // i<D+L+G}) W=>(Got w (w.heap.size+1) D β (J.map (·.1)) W∧Boxed W w 105 (.pointer (zp V))∧Boxed W Z 111 (U x))∧Below w w W)
  (fun _ _ _=>False)
  (OwnFrom.and (OwnFrom.and (Own.from (zSH (fun J:List {i:Nat // i<D+L+G}=>J.map (·.1)) _ _ _ _) _) (OwnFrom.and (Own.from (zCe _ _ _) _) (Own.from (zCe _ _ _) _))) (ownFrom_below (yb _) (by simp;omega)))
  (fun _ _ _ _ _ hs _ _=>hs)
  ⟨⟨⟨_,(bM.o.alloc _).alloc _,Vc.nil _ _ _ _⟩,(bC.o.alloc _).alloc _,bX.o⟩,(b3.o.alloc zo _).alloc (by simp;omega) _⟩
  (fun i=>{tmps:=#[V,U x,w,undef,.slice none 0 0,.pointer (zp (w.heap.size+1)),I (i.1:Nat),U x,V,V,V,.agg #[I D,I L,I G],I ((D:Int)+L+(G:Int)),.func (.func 115) #[] #[.pointer (zp (Z.heap.size+1)),Z],I (i.1:Nat),undef,undef,undef,undef,undef,undef,undef,undef,undef,undef,undef],defers:=[]}) ?assign ?body ?done ?stop
 (case assign=>intro l i W K hK;gi_wp2;exact hK);(case body=>rintro l J i W ⟨⟨⟨v',hv,O⟩,a1,hX⟩,hB⟩ b7;have hi:=i.2;generalize hiv:i.1=iv at *;have cM:=hv.cell;have fM:=hv.frozen;have cC:=a1.cell;have a6:=(hB.cell (p:=⟨V,3,none⟩) b5).trans c3;have cR:W.cell? (vb,iv)=some (.slice (zp (β iv)) D D):=(by have h:=(HR.o.later hB) iv hi;rwa[yc]at h);have b9:J.length<64:=(by have:=zAw (D+L+G) x.testBit;omega);have b4:=hB.size;gi_wp2_with fail;refine zDJ 8 (fun W2=>W2.cell? (w.heap.size+1,0)=some v'∧W2.cell? w=some (.pointer (zp V))∧W2.cell? (V,3)=some (.slice vb (D+L+G) vc)∧W2.cell? (vb,iv)=some (.slice (zp (β iv)) D D)) zA7 zk zk (fun⟨_,_,h⟩=>h) (fun _ _ _ _ _ h=>h) ⟨cM,cC,a6,cR⟩ ?_;simp only[yy,yE,yu,yz];refine⟨v',Or.inl ⟨by rfl,?_⟩,?_⟩;{rintro w2 ⟨s1,s2,s3,s4⟩;go_simp};refine⟨.pointer (zp V),Or.inl ⟨by rfl,?_⟩,?_⟩;{rintro w2 ⟨s1,s2,s3,s4⟩;go_simp};refine⟨.pointer (zp V),Or.inl ⟨by rfl,?_⟩,?_⟩;{rintro w2 ⟨s1,s2,s3,s4⟩;go_simp};refine⟨.pointer (some ⟨V,3,none⟩),Or.inl ⟨by rfl,?_⟩,?_⟩;{rintro w2 ⟨s1,s2,s3,s4⟩;go_simp};refine⟨.slice vb (D+L+G) vc,Or.inl ⟨by rfl,?_⟩,?_⟩;{rintro w2 ⟨s1,s2,s3,s4⟩;go_simp};refine⟨I iv,Or.inl ⟨by rfl,?_⟩,?_⟩;{rintro w2 ⟨s1,s2,s3,s4⟩;go_simp};refine⟨.pointer (some ⟨vb,iv,none⟩),Or.inl ⟨by rfl,?_⟩,?_⟩;{rintro w2 ⟨s1,s2,s3,s4⟩;go_simp;intro h;omega};refine⟨.slice (zp (β iv)) D D,Or.inl ⟨by rfl,?_⟩,?_⟩;{rintro w2 ⟨s1,s2,s3,s4⟩;go_simp};simp only[zBp];refine zKK (i:=8) rfl ?_ ?_;{rfl};go_simp;rw[yH]at O;refine⟨⟨zAv cM _,zAv cC _,zAv a6 _,zAv cR _⟩,?_⟩;refine zW (w:=W.drew) rfl (.tmp 15) (.tmp 23) 141 rfl w 31 (.slice none 0 0) 24 underlying141 zHA rfl v' J.length _ rfl O (.slice (zp (β iv)) D D) _ rfl rfl zo zo b4 ?_;intro v3 w3 a4 a2;have no:¬some (w.heap.size+1)=v'.ownBlock:=fun e=>O.qa (zM3 hv) zd _ e.symm rfl;have a3:=zJP (W:=W.drew) hv a2 no;obtain⟨c4,b6,c6,rfl,b0,_⟩:=a4.shape;obtain rfl:=b0 zo;have c5:=a3.cell;have f5:=a3.frozen;have HE:=zz (zQT (base:=w.heap.size) (D:=D) (w:=w) rfl hv O a1 hX hB zo zo zo a4 (a2.j6) (Z.heap.size+1+1));clear a4 a2 a3 no O hv a1 hX;go_wp2;obtain⟨e1,e2,⟨u,e3,e4⟩,e5,e6,e7⟩:=HE.o;refine⟨e1,e2,⟨⟨u,e3,?_⟩,e5,e6⟩,e7⟩;show Vc _ _ _ u ((J++[i]).map (·.1)).length (fun t=>.slice (some ⟨β (((J++[i]).map (·.1)).getD t 0),0,none⟩) D D);have hl:J.length=(J.map (·.1)).length:=(yH ..).symm;rw[yP,yB,<-hl];refine e4.congr fun j hj=>?_;rw[show([i].map (·.1):List Nat)=[iv]by rw[yAT,hiv];rfl,zJQ,<-hl];by_cases h:j<J.length;{rw[yq h,yq h]};{rw[yl h,yl h,yq zo]});(case done=>rintro Dd ys W hD b2 ⟨⟨⟨v',hv,O⟩,a1,hX⟩,hB⟩ hK;have hc:=hv.cell;gi_wp2;refine⟨zs,.inl ⟨_,_,rfl,run_takeDeferred hK,?_⟩⟩;have a7:=b2;refine⟨_,results_tmp rfl _ _ _,v',rfl,?_,hB.trans (belowK_b (w:=w) (yb _) W Dd _ _ (by simp at hD;omega) hK rfl rfl)⟩;rw[<-a7];exact ownsRow_putObj O _ hK rfl);(case stop=>rintro Dd c J W _ _ h _;exact h.elim)
attribute [local go_sem] Oper.semAt_some
theorem zPR(F:Fence)(n:Nat)(hF:F.fn 115)(hH:F.fn 109)(V:F.round=none)(hn:1≤n)(l bn bx:Nat)(N x:Nat)(hx:x<2^64)(hN:N<64)(Kp:World->World->Prop)(a5:∀A B,Kp A B->A.cell? bx=some (U x)->B.cell? bx=some (U x))(J Jx:List Nat->World->Prop)
  (hY:∀u i W,i<N->x.testBit i=true->J u W->u.length<(sel N x.testBit).length->YieldAt F (n - 1) prog l #[I (i:Nat)] W fun e W'=>
   (e=.returned (.bool true)∧J (u++[i]) W'∧Kp W W')∨(e=.returned (.bool false)∧Jx (u++[i]) W'))
  (W:zw)(b1:W.cell? bn=some (I N))(a8:W.cell? bx=some (U x))(h0:J [] W):
  CallsIn F n prog 115 #[.func (.yield l) #[] #[],bn,bx] W fun e W'=>(∃v,e=.returned v)∧
   ((∃ys,ys=sel N x.testBit∧J ys W')∨(∃u,u<+:sel N x.testBit∧Jx u W')):=by
 refine callsIn_of_wp func115 rfl hF ?_ V;simp only[ntmps115,yX,yF,yK,Nat.reduceAdd,Nat.reduceSub,yO,yN,yAd,yT,yAe,yAb];gi_wp2
 gi_loopw [6] (fun p wr=>∃k:Nat,k≤N∧p=I k∧J (sel k x.testBit) wr∧wr.cell? bx=some (U x))
  (fun p _=>N - (intOf p).toNat)
 (case atStart=>exact⟨0,zo,rfl,h0,a8⟩);(case round=>obtain⟨k,hk,rfl,hJ,O⟩:=hrel;by_cases a0:k<N;{have e1:=zAY k x.testBit;by_cases Z:x.testBit k=true;{have a1:=zJv a0 Z;rw[yq Z]at e1;obtain⟨fn,tmps,a4,b0,hy,hR⟩:=hY (sel k x.testBit) k wr a0 Z hJ a1;gi_wp2_with (gi_at_call 109;refine(zKq F (n - 1) hH V x k hx zo _).mono ?_;rintro e w' ⟨rfl,rfl⟩;rw[Z]);refine hR.mono ?_;rintro e W3 (⟨rfl,a6,a7⟩ | ⟨rfl,a2⟩);{have a3:=a5 _ _ a7 O;gi_wp2;go_roundw;(case rel=>exact⟨k+1,zo,by go_num,by rw[e1];exact a6,a3⟩);(case measure=>simp[intOf];omega)};{gi_wp2;refine yAg (yBA rfl _ _ _) rfl ?_;refine⟨⟨_,rfl⟩,.inr ⟨sel k x.testBit++[k],?_,a2⟩⟩;rw[<-e1];exact zEc zo}};{have a9:x.testBit k=false:=(by simpa using Z);rw[yl Z]at e1;gi_wp2_with (gi_at_call 109;refine(zKq F (n - 1) hH V x k hx zo _).mono ?_;rintro e w' ⟨rfl,rfl⟩;rw[a9]);refine⟨(fun f hf=>by cases hf),?_⟩;gi_wp2;go_roundw;(case rel=>exact⟨k+1,zo,by go_num,by rw[e1];exact hJ,O⟩);(case measure=>simp[intOf];omega)}};{obtain rfl:N=k:=zo;gi_wp2;go_end0;exact⟨⟨_,rfl⟩,.inl ⟨_,rfl,hJ⟩⟩})
theorem zGp(F:Fence)(n:Nat)(hF:F.fn 115)(hH:F.fn 109)(b2:F.round=none)(hn:1≤n)(Z V:Nat)(N x:Nat)(hx:x<2^64)(hN:N<64)(Kp:World->World->Prop)(a5:∀A B,Kp A B->A.cell? V=some (U x)->B.cell? V=some (U x))(w:zw)(a9:Z<w.heap.size)(a6:V<w.heap.size)
  (a4:w.cell? Z=some (I N))(b0:w.cell? V=some (U x)):
  SeqStopsK F n prog 115 #[Z,V] (fun i:{i:Nat // i<N∧x.testBit i=true}=>#[I (i.1:Nat)]) Kp (fun ys=>ys.map (·.1)=sel N x.testBit) (fun a3=>a3.map (·.1)<+:sel N x.testBit) (sel N x.testBit).length w:=fun l J Jx W hW _ _ hY h0=>by
 refine(zPR F n hF hH b2 hn l Z V N x hx hN Kp a5 (fun l W=>∃u,u.map (·.1)=l∧J u W) (fun l W=>∃u,u.map (·.1)=l∧Jx u W) ?_ W ((hW.cell (p:=Z) a9).trans a4) ((hW.cell (p:=V) a6).trans b0) ⟨[],rfl,h0⟩).mono ?_
 ·rintro a3 i W' hi b1 ⟨u,rfl,hJ⟩ a0;obtain⟨fn,tmps,O,a1,hy,hR⟩:=hY u ⟨i,hi,b1⟩ W' hJ (by simpa using a0);refine⟨fn,tmps,O,a1,hy,hR.mono ?_⟩;rintro e W3 (⟨he,a7,a8⟩ | ⟨he,a2⟩)
  ·exact .inl ⟨he,⟨_,zs,a7⟩,a8⟩
  ·exact .inr ⟨he,⟨_,zs,a2⟩⟩
 ·rintro e W3 ⟨hv,h⟩;refine⟨hv,?_⟩;rcases h with⟨_,rfl,u,hl,hJ⟩ | ⟨_,hp,u,rfl,hJ⟩
  ·exact .inl ⟨u,hl,hJ⟩
  ·exact .inr ⟨u,hp,hJ⟩
end Go.Proofs.YtonfdlhikinldaaGreatDoor
