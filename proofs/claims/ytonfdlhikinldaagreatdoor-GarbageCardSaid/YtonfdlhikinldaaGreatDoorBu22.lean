import Derived.Test.YtonfdlhikinldaaGreatDoorBu16
import Derived.Test.YtonfdlhikinldaaGreatDoorBu17
import Derived.Test.YtonfdlhikinldaaGreatDoorBu21
import Derived.StillTailTactics
import Derived.Laws.EntriesVeiled
set_option maxRecDepth 100000
set_option linter.all false
set_option linter.unusedVariables false
set_option maxHeartbeats 16000000
namespace Go.Proofs.YtonfdlhikinldaaGreatDoor
open Go.RowKit Go.Proofs Lin Go.Shelf Go.Proofs.Tryz
attribute [local go_sem] Oper.semAt_some
theorem zPA{F:Fence}(u:F.depth=none)(k:Nat):F.room k:=fun d h=>by rw[u]at h;cases h
theorem zQt{F:Fence}(Z:F.depth=none){m:Nat}(V:Nat){P:Program}{l:Nat}{args:Array Value}{W:zw}{R:Ending->World->Prop}(h:YieldAt F m P l args W R):YieldAt F V P l args W R:=by
 obtain⟨fn,tmps,u,J,hy,O⟩:=h;exact⟨fn,tmps,u,J,hy,O.1,fun c cs _=>O.2 c cs (zPA Z _)⟩
theorem zUA(s a:Nat)(hs:s<2^16)(J:a<16):bits BinOp.or IntKind.u64 (s:Int) (IntKind.u64.wrap ((2:Int)^a))=((s|||2^a:Nat):Int)∧s|||2^a<2^16:=by
 have O:2^a<2^16:=yAx zo J;have u:=yBJ hs O;have V:(2:Int)^a=((2^a:Nat):Int):=zs;have Z:IntKind.u64.wrap ((2:Int)^a)=((2^a:Nat):Int):=(by rw[V];exact zAi _ (yAG _) zo);refine⟨?_,u⟩;rw[Z];show IntKind.u64.wrap ((BitVec.ofInt 64 (s:Int)|||BitVec.ofInt 64 ((2^a:Nat):Int)).toNat:Int)=_;rw[BitVec.toNat_or,ofInt_u64 _ zo,ofInt_u64 _ zo];exact zAi _ (yAG _) zo
structure zMx (n₀:Nat) (W:zw) (O J:Nat) (u:List Nat) (a:Option Addr) (V Z:Nat):Prop where
 lab:O<n₀
 lfb:J<n₀
 lvb:0<u.length->V<n₀
 box:W.cell? O=some (.slice a u.length Z)
 addr:0<u.length->a=zp V
 rd:Rd W V 0 u.length (fun t=>I (u.getD t 0:Nat))
 fn:W.cell? J=some (.func (.func 152) #[] #[O,J])
theorem zMx.later{n₀:Nat}{W W':zw}{V O:Nat}{u:List Nat}{a:Option Addr}{Z vc:Nat}(h:zMx n₀ W V O u a Z vc)(J:Below n₀ W W'):zMx n₀ W' V O u a Z vc:=
 ⟨h.lab,h.lfb,h.lvb,(J.cell (p:=V) h.lab).trans h.box,h.addr,fun i hi=>(J.cell (p:=⟨Z,0+i,none⟩) (h.lvb zo)).trans (h.rd i hi),(J.cell (p:=O) h.lfb).trans h.fn⟩
def zGP(n₀:Nat)(J V:List Nat->World->Prop)(u L:List Nat)(W:zw)(e:Ending)(O:zw):Prop:=
 (e=.returned (.bool true)∧J (u++L) O∧Below n₀ W O)∨(e=.returned (.bool false)∧∃q,q<+:L∧V (u++q) O)
theorem zPB{l:List Nat}{i:Nat}(h:i<l.length):l.drop i=l.getD i 0::l.drop (i+1):=by
 rw[yBg h];simp[yg,h]
theorem zQu(l n₀ N ab fb vb vc:Nat)(a:Option Addr)(u:List Nat)(b0:∀i∈u,i<16)(J Jx:List Nat->World->Prop)(a6:∀O W,J O W->J O W.drew)
  (hY:∀(m:Nat) (O:List Nat) (x:Nat) (W:zw),x<2^16->J O W->O.length<N->YieldAt Fence.wide m prog l #[U x] W fun e W'=>
   (e=.returned (.bool true)∧J (O++[x]) W'∧Below n₀ W W')∨(e=.returned (.bool false)∧Jx (O++[x]) W')):
  ∀(left V s:Nat) (O:List Nat) (W:zw),zMx n₀ W ab fb u a vb vc->J O W->V≤u.length->u.length≤16->left≤16->s<2^16->O.length+(zCY left (u.drop V) s).length≤N->
   Calls prog 152 #[I V,U s,I left,.func (.yield l) #[] #[],ab,fb] W (zGP n₀ J Jx O (zCY left (u.drop V) s) W):=by
 intro left
 induction left with
 | zero=>
  intro V s O W hS hJ a3 a0 hl hs hN;simp only[zCY,yZ]at hN;obtain⟨fn,tmps,b4,c1,hy,hR⟩:=hY 2 O s W hs hJ zo;refine(callsIn_wide (n:=3)).1 (callsIn_of_wp func152 rfl yAf ?_ rfl);simp only[ntmps152,yX,yF,yK,Nat.reduceAdd,Nat.reduceSub,yO,yN,yAd,yT,yAe,yAb];gi_wp2_with fail;refine hR.mono ?_;rintro e W' (⟨rfl,b1,hb⟩ | ⟨rfl,hx⟩);{have HE:=zy (zGP n₀ J Jx O (zCY 0 (u.drop V) s) W (.returned (.bool true)) W') (.inl ⟨rfl,by simpa[zCY]using b1,hb⟩);clear b1 hb;gi_wp2;go_ret;exact HE.o};{have HE:=zy (zGP n₀ J Jx O (zCY 0 (u.drop V) s) W (.returned (.bool false)) W') (.inr ⟨rfl,[s],by simp[zCY],hx⟩);clear hx;gi_wp2;go_ret;exact HE.o}
 | succ left ih=>
  intro V s O W hS hJ a3 a0 hl hs hN;have b5:=zz hS;have HN:=zz hN;have HJ:=zz hJ;have HI:=zz ih;have b6:=zz b0;have b7:=zz a6;clear hS hN hJ ih b0 a6;obtain⟨m,hm⟩:=zx (left+1);rw[<-hm]at HN hl ⊢;have HM:=zz hm;have c5:(m:Int) - 1=(left:Int):=zo;have c9:((m:Int)==0)=false:=(by simp;omega);have c3:1≤m:=zo;clear hm;go_enter func152,ntmps152;go_wp2_with fail
  go_loopw [11] (fun p wr=>∃(i:Nat) (q:List Nat),p=I i∧V≤i∧i≤u.length∧J (O++q) wr∧q++zCY m (u.drop i) s=zCY m (u.drop V) s∧Below n₀ W wr)
   (fun p _=>u.length - (intOf p).toNat)
  (case atStart=>exact⟨V,[],rfl,yb _,a3,by simpa using HJ.o,zs,yh _ _⟩);(case round=>obtain⟨i,q,rfl,c6,c7,hJ,hq,hB⟩:=hrel;have Z:=zz (b5.o.later hB);have HQ:=zz hq;have a4:=zz hJ;have b2:=zz hB;have cA:=Z.o.box;have cF:=Z.o.fn;clear hq hJ hB;by_cases c4:i+m≤u.length;{have a1:i<u.length:=zo;obtain rfl:=Z.o.addr zo;have cV:wr.cell? (vb,i)=some (I (u.getD i 0:Nat)):=(by have:=Z.o.rd i a1;rwa[yc]at this);have a8:=b6.o _ (zFJ a1);have HD:=zz (zPB a1);generalize hai:u.getD i 0=ai at *;have HO:=zz (zUA s ai hs a8);have a2:decide ((i:Int)+m≤(u.length:Int))=true:=(by simp;omega);have HC:=zz (HI.o (i+1) (s|||2^ai) (O++q) wr.drew (Z.o.later (n₀:=n₀) ⟨rfl,rfl,rfl,yb _,fun _ _=>rfl⟩) (b7.o _ _ a4.o) zo a0 zo HO.o.2 (by have h1:=HN.o;rw[<-HQ.o,HD.o,HM.o,zCY]at h1;simp only[yB]at h1 ⊢;omega));go_wp2_with fail;go_still_tail 13,zA7;change wpList _ _ _ _ _ (wr.drewN 1);go_wp2_with (go_at_call 152;rw[HO.o.1];refine HC.o.mono ?_;rintro e W2 (⟨rfl,a9,a5⟩ | ⟨rfl,q2,b3,a7⟩));{have b9:=zz a9;have c0:=zz a5;clear a9 a5;go_wp2_with fail;go_roundw;(case rel=>exact⟨i+1,q++zCY left (u.drop (i+1)) (s|||2^ai),by go_num,zo,by have:=HM.o;omega,by rw[<-yAh];exact b9.o,by rw[<-HQ.o,HD.o,HM.o,zCY,yAh],(b2.o.trans (show Below n₀ wr wr.drew from⟨rfl,rfl,rfl,yb _,fun _ _=>rfl⟩)).trans c0.o⟩);(case measure=>simp[intOf];omega)};{have HE:=zy (zGP n₀ J Jx O (zCY m (u.drop V) s) W (.returned (.bool false)) W2) (.inr ⟨rfl,q++q2,by rw[<-HQ.o,HD.o,HM.o,zCY];obtain⟨t,ht⟩:=b3;exact⟨t++zCY (left+1) (u.drop (i+1)) s,by rw[<-ht];simp[yAh]⟩,by rw[<-yAh];exact a7⟩);clear b3 a7;go_wp2_with fail;go_ret;exact HE.o}};{have HZ:=zz (zEf (l:=u.drop i) (n:=m) (s:=s) (by simp;omega));have a2:decide ((i:Int)+m≤(u.length:Int))=false:=(by simp;omega);have HE:=zy (zGP n₀ J Jx O (zCY m (u.drop V) s) W (.returned (.bool true)) wr) (.inl ⟨rfl,by have h:=HQ.o;rw[HZ.o,yAQ]at h;rw[<-h];exact a4.o,b2.o⟩);go_wp2_with fail;go_ret;exact HE.o})
attribute [local go_sem] Oper.semAt_some
theorem zAq{W J:zw}{G:Nat->Prop}(u:Upd G W J)(V:∀b,G b->∃c t f,W.heap[b]? =some (.cells c t f))(B:Nat):KeepsFrom B W J:=
 ⟨u.size,fun k o _ hk O=>(u.block k (Array.getElem?_eq_some_iff.1 hk).1 fun e=>by obtain⟨c,t,f,h⟩:=V k e;rw[h]at hk;cases hk;cases O).trans hk⟩
theorem zPC{W J:zw}{G:Nat->Prop}{n₀ u:Nat}(V:Upd G W J)(O:u<W.heap.size)(hG:¬G u)(Z:Below n₀ W J):KpX n₀ u W J:=
 ⟨Z,fun o ho=>(V.block u O hG).trans ho⟩
theorem Vc.cells{w:zw}{base e n:Nat}{v:Value}{f:Nat->Value}(h:Vc w base e v n f):∀b,some b=v.ownBlock->∃c t f,w.heap[b]? =some (.cells c t f):=fun b e=>by
 obtain⟨c,hc⟩:=zOa h e.symm;exact⟨_,_,_,hc⟩
theorem Boxed.cells{w:zw}{b t:Nat}{v:Value}(h:Boxed w b t v):∃c t f,w.heap[b]? =some (.cells c t f):=⟨_,_,_,h⟩
def zUy(base J:Nat)(u:List Nat)(W:zw):Prop:=
 ∃v,Boxed W J 158 v∧Vc W base 3 v u.length (fun t=>I (u.getD t 0:Nat))
theorem zQv{α:Type}(f:α->List Nat)(base bo:Nat):Own (fun(s:α) W=>zUy base bo (f s) W):=by
 intro s X Y Z hs hg J;obtain⟨v,O,V,h3⟩:=holdsRow_own (β:=List Nat) base bo 158 3 1 (fun u=>u.length) (fun u=>(List.range u.length).map fun t=>I (u.getD t 0:Nat)) (fun _ _=>True) (f s) X Y Z (by obtain⟨v,O,V⟩:=hs;exact⟨v,O,V,yAf⟩) hg J;exact⟨v,O,V⟩
def zSl(w:zw)(u:List Nat)(size:Nat)(e:Ending)(w':zw):Prop:=
 ∃V J sb O Z a,e=.returned (.func (.func 153) #[] #[.pointer (zp J),.pointer (zp sb)])∧
  zMx w' w' V J u a O Z∧w'.cell? ⟨sb,0,none⟩=some (I size)∧sb<w'.heap.size∧Below w w w'
theorem zKl(x N size:Nat)(hx:x<2^64)(hN:N<64)(w:zw):
  Calls prog 143 #[U x,I N,I size] w (zSl w (sel N x.testBit) size):=by
 refine(callsIn_wide (n:=3)).1 (callsIn_of_wp_marks func143 rfl yAf ?_ rfl);simp only[ntmps143,yX,yF,yK,Nat.reduceAdd,Nat.reduceSub,yO,yN,yAd,yT,yAe,yAb];gi_wp2_with (refine⟨yAf,?_⟩;gi_at_call 84;refine(zIV Fence.wide (3 - 1) yAf rfl x N _).mono ?_;rintro e w2 ⟨rfl,rfl⟩);have bS:=zz ((((Boxed.new w 3 (I size)).alloc (.cells #[.slice none 0 0] 158)).alloc (.cells #[U x] 111)).alloc (.cells #[I N] 3));have bM:=zy (Boxed ((((w.alloc (.cells #[I size] 3)).alloc (.cells #[.slice none 0 0] 158)).alloc (.cells #[U x] 111)).alloc (.cells #[I N] 3)) (w.heap.size+1) 158 (.slice none 0 0)) (by have h:=((Boxed.new (w.alloc (.cells #[I size] 3)) 158 (.slice none 0 0)).alloc (.cells #[U x] 111)).alloc (.cells #[I N] 3);rwa[yw]at h);have bX:=zy (Boxed ((((w.alloc (.cells #[I size] 3)).alloc (.cells #[.slice none 0 0] 158)).alloc (.cells #[U x] 111)).alloc (.cells #[I N] 3)) (w.heap.size+2) 111 (U x)) (by have h:=(Boxed.new ((w.alloc (.cells #[I size] 3)).alloc (.cells #[.slice none 0 0] 158)) 111 (U x)).alloc (.cells #[I N] 3);rwa[yw,yw]at h);have bN:=zy (Boxed ((((w.alloc (.cells #[I size] 3)).alloc (.cells #[.slice none 0 0] 158)).alloc (.cells #[U x] 111)).alloc (.cells #[I N] 3)) (w.heap.size+3) 3 (I N)) (by have h:=Boxed.new (((w.alloc (.cells #[I size] 3)).alloc (.cells #[.slice none 0 0] 158)).alloc (.cells #[U x] 111)) 3 (I N);rwa[yw,yw,yw]at h)
 have HB:=zy (Below w w ((((w.alloc (.cells #[I size] 3)).alloc (.cells #[.slice none 0 0] 158)).alloc (.cells #[U x] 111)).alloc (.cells #[I N] 3))) (
  ((((yh _ w).alloc (yb _) _).alloc zs _).alloc (by simp;omega) _).alloc (by simp;omega) _)
 have d0:((((w.alloc (.cells #[I size] 3)).alloc (.cells #[.slice none 0 0] 158)).alloc (.cells #[U x] 111)).alloc (.cells #[I N] 3)).heap.size=w.heap.size+4:=zs;generalize(((w.alloc (.cells #[I size] 3)).alloc (.cells #[.slice none 0 0] 158)).alloc (.cells #[U x] 111)).alloc (.cells #[I N] 3)=W0 at *;refine wpIn_rangeFunc_ownG rfl zo (gf:=115) (lb:=#[.pointer (zp (w.heap.size+1+1+1)),.pointer (zp (w.heap.size+1+1))]) rfl yAf (enters_of func115 zk rfl)
  (zFQ Fence.wide (3 - 1) yAf yAf rfl zo (w.heap.size+1+1+1) (w.heap.size+1+1) N x hx hN (KpX w (w.heap.size+1+1)) (fun A B h hc=>h.cell hc) W0 zo zo bN.o.cell bX.o.cell)
  KpX.t (KpX.b zo zo) (yh _ _) (fun _=>rfl)
  (fun(O:List {i:Nat // i<N}) W=>(zUy (w.heap.size+1) (w.heap.size+1) (O.map (·.1)) W∧Boxed W w 3 (I size)∧Boxed W (w.heap.size+1+1) 111 (U x))∧Below w w W)
  (fun _ _ _=>False)
  (OwnFrom.and (OwnFrom.and (Own.from (zQv (fun O:List {i:Nat // i<N}=>O.map (·.1)) _ _) _) (OwnFrom.and (Own.from (zCe _ _ _) _) (Own.from (zCe _ _ _) _))) (ownFrom_below (yb _) zo))
  (fun _ _ _ _ _ hs _ _=>hs)
  ⟨⟨⟨_,bM.o,Vc.nil _ _ _ _⟩,bS.o,bX.o⟩,HB.o⟩
  (fun i=>{tmps:=#[U x,I N,I size,undef,undef,w,.nilFunc,.pointer (zp (w.heap.size+1)),I (i.1:Nat),undef,U x,I N,
   .func (.func 115) #[] #[.pointer (zp (w.heap.size+1+1+1)),.pointer (zp (w.heap.size+1+1))],I (i.1:Nat),undef,undef,undef,undef,undef,undef],defers:=[]}) ?assign ?body ?done ?stop
 (case assign=>intro l i W K hK;gi_wp2;exact hK)
 case body=>
  rintro l O i W ⟨⟨⟨v',hv,J⟩,a1,hX⟩,hB⟩ c6;have hi:=i.2;generalize hiv:i.1=iv at *;have cM:=hv.cell;have fM:=hv.frozen;have c7:O.length<64:=(by have:=zAw N x.testBit;omega);have b0:w.heap.size+1≤W.heap.size:=(by have:=hv.lt;omega);have HV:=zz hv;have HS:=zz a1;have HX:=zz hX;have a0:=zz hB;rw[yH]at J;have u:=zz J;clear hv a1 hX hB J
  gi_wp2_with (
   gi_at_builtin
   refine zAZ (fun⟨_,_,h⟩=>h) _ _ _ zk ?_;refine zW (w:=W) rfl (.tmp 14) (.tmp 16) 158 rfl (w.heap.size+1) 3 (.int .i64 0) 8 underlying158 zOn rfl v' O.length _ rfl u.o (I (iv:Nat)) _ rfl rfl zo zo b0 ?_;intro v3 w3 a6 a5;have no:¬some (w.heap.size+1)=v'.ownBlock:=fun e=>u.o.qa (zM3 HV.o) zd _ e.symm rfl;have a2:=zJP HV.o a5 no;obtain⟨c9,b5,c1,rfl,a4,_⟩:=a6.shape;obtain rfl:=a4 zo;have c5:=a2.cell;have f5:=a2.frozen;have b1:=zz a6;have c3:=zz a5;have a9:=zz a2;clear a6 a5 a2 no a4)
  go_wp2
  have no:¬some (w.heap.size+1)=v'.ownBlock:=fun e=>u.o.qa (zM3 HV.o) zd _ e.symm rfl;have Z:Upd (fun b=>some b=v'.ownBlock∨b=w.heap.size+1) W (w3.setCell (w.heap.size+1,0) (.slice b5 (O.length+1) c1)):=(c3.o.mono fun b _ e=>.inl e).setCell (a:=⟨w.heap.size+1,0,none⟩) (fun _=>.inr rfl) _;have V:=Z.below (fun b e=>by
   rcases e with e | e
   ·have:=(u.o.lt b e.symm).1;omega
   ·omega) a0.o.size
  refine⟨zAq Z (fun b e=>by rcases e with e | e;exact u.o.cells b e;subst e;exact Boxed.cells HV.o) _,zPC Z HX.o.lt (fun e=>by rcases e with e | e;exact u.o.qa (zM3 HX.o) zd _ e.symm rfl;omega) V,
   ⟨⟨_,a9.o.set _,?_⟩,zJP HS.o Z (fun e=>by rcases e with e | e;have:=(u.o.lt _ e.symm).1;omega;omega),zJP HX.o Z (fun e=>by rcases e with e | e;exact u.o.qa (zM3 HX.o) zd _ e.symm rfl;omega)⟩,a0.o.trans V⟩
  have hl:O.length=(O.map (·.1)).length:=(yH ..).symm;rw[yP,yB,<-hl];refine(b1.o.kept ((Upd.refl (fun b=>b=w.heap.size+1) w3).setCell (a:=⟨w.heap.size+1,0,none⟩) (fun _=>rfl) _) fun t ht e=>b1.o.qa (zM3 a9.o) zd t ht e).congr fun j hj=>?_;rw[show([i].map (·.1):List Nat)=[iv]by rw[yAT,hiv];rfl,zJQ,<-hl];by_cases h:j<O.length;{rw[yq h,yq h]};{rw[yl h,yl h,yq zo]}
 (case done=>rintro Dd ys W hD a8 ⟨⟨⟨v',hv,J⟩,a1,hX⟩,hB⟩ hK;have a3:=a8;have HV:=zz hv;have HS:=zz a1;have a0:=zz hB;have HK:=zz hK;rw[a3]at J;have u:=zz J;clear hv a1 hX hB J a8 a3 hK;gi_wp2;have b4:=(Array.getElem?_eq_some_iff.1 HK.o).1;generalize hob:Obj.cells #[Value.func (Fn.func 152) #[] #[.pointer (zp (w.heap.size+1)),W]] 290=o;have c0:(W.alloc o).cell? W=some (.func (.func 152) #[] #[.pointer (zp (w.heap.size+1)),W]):=(by rw[<-hob];exact(Boxed.new W _ _).cell);have a7:(W.alloc o).heap[Dd]? =some (.deferred (some [])):=(Deep.blk_alloc_lt _ _ _ b4).trans HK.o;have hX:∀b,b≠Dd->((W.alloc o).putObj Dd (.deferred none)).heap[b]? =(W.alloc o).heap[b]? :=fun b hb=>World.putObj_heap_other zo;have b2:Vc ((W.alloc o).putObj Dd (.deferred none)) (w.heap.size+1) 3 v' (sel N x.testBit).length (fun t=>I ((sel N x.testBit).getD t 0:Nat)):=ownsRow_putObj (u.o.alloc o) _ a7 rfl;have c4:Boxed ((W.alloc o).putObj Dd (.deferred none)) (w.heap.size+1) 158 v':=(hX _ zo).trans (HV.o.alloc o);have b6:Boxed ((W.alloc o).putObj Dd (.deferred none)) w 3 (I size):=(hX _ zo).trans (HS.o.alloc o);have hz:((W.alloc o).putObj Dd (.deferred none)).heap.size=W.heap.size+1:=(by rw[World.putObj_size,yw]);have V:Below w w ((W.alloc o).putObj Dd (.deferred none)):=(a0.o.alloc a0.o.size o).trans (belowK_b (w:=w) (yb _) _ Dd _ _ zo a7 rfl rfl);obtain⟨va,vb,vc,rfl,b7,b9,_,b3,_⟩:=b2.shape;refine⟨zs,.inl ⟨_,_,rfl,run_takeDeferred a7,?_⟩⟩;refine⟨_,results_tmp rfl _ _ _,w.heap.size+1,W.heap.size,w.heap.size,vb,vc,va,rfl,⟨zo,zo,fun h=>(b3 h).2.lt,c4.cell,b7,b9.rd,(yk (a:=W) (hX W zo)).trans c0⟩,b6.cell,zo,V⟩);(case stop=>rintro Dd c O W _ _ h _;exact h.elim)
end Go.Proofs.YtonfdlhikinldaaGreatDoor
