import Derived.Test.YtonfdlhikinldaaGreatDoorBu40
import Derived.Test.YtonfdlhikinldaaGreatDoorBu41
import Derived.Test.YtonfdlhikinldaaGreatDoorBu15
import Derived.Test.YtonfdlhikinldaaGreatDoorBu21
import Derived.Test.YtonfdlhikinldaaGreatDoorBu27
import Derived.Test.YtonfdlhikinldaaGreatDoorBu10
import Derived.Test.YtonfdlhikinldaaGreatDoorBu34
import Derived.Test.YtonfdlhikinldaaGreatDoorBu16
import Derived.Test.YtonfdlhikinldaaGreatDoorBu38
import Derived.Test.YtonfdlhikinldaaGreatDoorBu32
import Derived.Test.YtonfdlhikinldaaGreatDoorBu14
import Derived.Test.YtonfdlhikinldaaGreatDoorBu42
set_option maxRecDepth 100000
set_option linter.all false
set_option linter.unusedVariables false
set_option maxHeartbeats 16000000
namespace Go.Proofs.YtonfdlhikinldaaGreatDoor
open Go Go.RowKit Go.Proofs Lin Go.Proofs.Tryz
variable {E:List Nat}
theorem zBE.jb{w w':zw}{m:Loc}{A:Arr}{h:Hd}{O V:Value}(H:zFS w m A h O V E){X:Nat->Prop}(u:Upd X w w')
  (J:∀g,X g->g<w.heap.size->¬m.own g∧g≠2∧∃t,Kd w g t∧t≠249∧t≠173∧t≠171):zFS w' m A h O V E:=
 H.re u (H.arc.apart u fun c hc Z=>(J c hc (H.arc.qf Z)).1 Z) fun c hc hl=>by
  obtain⟨h1,h2,t,h3,h4,h5,h6⟩:=J c hc hl;exact⟨⟨t,h3,h4,h5,h6⟩,h2⟩
theorem Vz.base{w:zw}{B B' e z n:Nat}{v:Value}{f:Nat->Nat->Value}(h:Vz w B e z v n f)(O:B'≤B):Vz w B' e z v n f:=by
 refine⟨h.1,?_⟩;rcases h.2 with hn | ⟨g,u,J,rfl,V,rest⟩;{exact .inl hn};{exact .inr ⟨g,u,J,rfl,zo,rest⟩}
def zU2(w:zw)(m:Loc)(A:Arr)(h:Hd)(u J:Value)(E:List Nat)(b q:Nat)(e:Ending)(w':zw):Prop:=
 ∃E',zFS w' m (getP m.D m.L m.G b q A).2 h u J E'∧(∀c∈E',c∈E∨w.heap.size≤c)∧Upd (eX m E) w w'∧
 ((∃x v,(getP m.D m.L m.G b q A).1=some x∧e=.returned (.tuple #[v,.nilIface])∧Vc w' w 5 v (m.D*44) (bs x))∨(getP m.D m.L m.G b q A).1=none∧e=.returned (.tuple #[.slice none 0 0,.iface 54 (I 3)]))
theorem zTK{m:Loc}{A:Arr}{h:Hd}{u J:Value}(w:zw)(b q:Nat)(H:zFS w m A h u J E)(V:q<2^64):Calls prog 60 #[m.ar,.agg #[I b,U64 q]] w (zU2 w m A h u J E b q):=by
 refine(zNy w m.ar m.cb m.kb m.mb m.most m.l A m.D m.L m.G m.cv m.β h u J .nilIface b q E H V).mono ?_;rintro e w' ⟨E',Z,hE,O,hr⟩;have h1:=H.arc.right.d1;exact⟨E',Z,hE,O.mono fun c _ hc=>zQ1 rfl zo hc,hr⟩
def zMI(w:zw)(m:Loc)(s:Ast)(E:List Nat)(e:Ending)(w':zw):Prop:=
 ArR w m E {s with A:=(zIT m.D m.L m.G s.h s.A).2} w'∧
 ((∃b u O J,(zIT m.D m.L m.G s.h s.A).1=some (b,u)∧e=.returned (.tuple #[O,J,.nilIface])∧Bl w' w O b∧Vz w' w 120 2 J u.length (spF u)∧(∀p∈u,p.1<2^32∧p.2<2^64)∧u.length≤s.A.m+1∧b.length=s.h.size∧s.h.size≤(s.A.m+1)*528)∨
  ((zIT m.D m.L m.G s.h s.A).1=none∧e=.returned (.tuple #[.slice none 0 0,.slice none 0 0,.iface 54 (I 3)])))
def atF(p:Nat × Nat):Nat->Value:=fun i=>if i=0 then I p.1 else U64 p.2
structure zUu (w:zw) (m:Loc) (s:Ast) (E:List Nat) (ov lv:Value) (R:Option (List UInt8 × List (Nat × Nat)) × Arr) (v5 Z:Value) (k:Nat) (p:Nat × Nat) (u:List UInt8) (J:List (Nat × Nat)) (O:Arr) (E':List Nat) (V:Nat) (wr:zw):Prop where
 k1:1≤k
 len:J.length+k=s.A.m+2
 run:folP m.D m.L m.G s.h.size k p u J O=R
 mm:O.m=s.A.m
 p1:p.1<2^32
 p2:p.2<2^64
 ok:∀x∈J,x.1<2^32∧x.2<2^64
 gbl:w.heap.size≤V
 box:wr.heap[V]? =some (.cells #[I p.1,U64 p.2] 120 (0,0))
 obl:Bl wr w v5 u
 nil:J=[]->Z=.slice none 0 0
 sps:Vz wr w 120 2 Z J.length (spF J)
 ne:∀g,Z.ownBlock=some g->g≠V
 dsk:zFS wr m O s.h ov lv E'
 e:∀c∈E',c∈E∨w.heap.size≤c
 upd:Upd (eX m E) w wr
 ol:u.length≤J.length*528
theorem zTL(w:zw)(m:Loc)(s:Ast){ov lv:Value}(H:ArE w m s E ov lv)(i0:s.h.ok)(hm:s.A.m≤1000000):
  Calls prog 71 #[m.ar] w (zMI w m s E):=by
 have HH:=zz H;have k2:=zz i0;have r5:=H.dsk.arc.right.d1;have r4:=H.dsk.arc.right.d2;obtain⟨R,hR⟩:=zx (zIT m.D m.L m.G s.h s.A);have h8:=zy (folP m.D m.L m.G s.h.size (s.A.m+2) (s.h.fb,s.h.fs) [] [] s.A=R) (by rw[hR];rfl);have i5:=zz (show∀e w',(ArR w m E {s with A:=R.2} w'∧
 ((∃b sp v1 v2,R.1=some (b,sp)∧e=.returned (.tuple #[v1,v2,.nilIface])∧Bl w' w v1 b∧Vz w' w 120 2 v2 sp.length (spF sp)∧(∀p∈sp,p.1<2^32∧p.2<2^64)∧sp.length≤s.A.m+1∧b.length=s.h.size∧s.h.size≤(s.A.m+1)*528)∨
  (R.1=none∧e=.returned (.tuple #[.slice none 0 0,.slice none 0 0,.iface 54 (I 3)]))))->zMI w m s E e w' from fun e w' h=>by unfold zMI;rw[<-hR];exact h)
 have d8:w.cell? (m.ar,8)=some (I s.h.fb):=H.dsk.arc.qi.cell 5 zo;have d9:w.cell? (m.ar,9)=some (U64 s.h.fs):=H.dsk.arc.qi.cell 6 zo;obtain⟨M,hM⟩:=zx s.A.m;have HM:=zz hM;rw[<-hM]at h8 hm;obtain⟨size,e9⟩:=zx s.h.size;have c3:=zz e9;have m6:=e9▸i0.size;rw[<-e9]at h8;clear hR i0 H hM e9;go_enter func71,ntmps71;go_upto_region 4 with fail;have h9:Below w w (w.alloc (.cells #[.int .i64 (s.h.fb:Int),.int .u64 (s.h.fs:Int)] 120)):=(yh _ w).alloc (yb _) _;have n4:=zy (zUu w m s E ov lv R (.slice none 0 0) (.slice none 0 0) (M+2) (s.h.fb,s.h.fs) [] [] s.A E w (w.alloc (.cells #[.int .i64 (s.h.fb:Int),.int .u64 (s.h.fs:Int)] 120))) (
  ⟨zo,by simp[HM.o],by have:=h8.o;rw[c3.o]at this;exact this,rfl,k2.o.fb,k2.o.fs,fun x hx=>absurd hx zs,yb _,Deep.blk_alloc_new w _,Bl.nil _ _,fun _=>rfl,Vz.nil _ _ _ _ _,fun g hg=>by simp[Value.ownBlock]at hg,HH.o.dsk.later h9,fun c hc=>.inl hc,(Upd.of_below h9).mono (fun _ _ h=>h.elim),zs⟩)
 generalize w.alloc (.cells #[.int .i64 (s.h.fb:Int),.int .u64 (s.h.fs:Int)] 120)=w1 at *;clear h9;go_loopg [5,6,7] (M+2) (fun g v5 v6 v7 wr=>∃(k:Nat) (p:Nat × Nat) (a3:List UInt8) (sp:List (Nat × Nat)) (A':Arr) (E':List Nat) (J:Nat),g=k+1∧v7=.pointer (zp J)∧zUu w m s E ov lv R v5 v6 (k+1) p a3 sp A' E' J wr);(case atStart=>exact⟨M+1,(s.h.fb,s.h.fs),[],[],s.A,E,w.heap.size,rfl,rfl,n4.o⟩)
 case round=>
  obtain⟨k,p,a3,sp,A',E',J,rfl,rfl,hS⟩:=hrel;obtain⟨p1,p2⟩:=p;have u:=zz hS;obtain⟨oa,ob,oc,rfl,-,-,h6,-⟩:=hS.obl.shape;have m9:=u.o.obl.jn;obtain⟨sa,sb,sc,rfl,b3,-⟩:=hS.sps.shape;have i6:=b3.cap;have p4:=b3.max;have n8:p1<2^32:=hS.p1;have i9:p2<2^64:=hS.p2;have d7:wr.cell? (m.ar,7)=some (I size):=(by rw[c3.o];exact hS.dsk.arc.qi.cell 4 zo);have d0:=hS.dsk.arc.c0;have g0:wr.cell? J=some (I p1):=yBl wr J 0 _ _ (0,0) hS.box;have g1:wr.cell? (J,1)=some (U64 p2):=yBl wr J 1 _ _ (0,0) hS.box;have c6:=zz (fun q=>show Calls prog 29 #[m.l.ab] (wr.drewN q) fun e w'=>e=.returned (I M)∧∃p,w'=(wr.drewN q).drewN p from by have h:=zCZ (wr.drewN q) m.l A' (u.o.dsk.later (below_drewN (yh _ wr) q)).arc.arr;rw[u.o.dsk.arc.n,yl zo,u.o.mm,<-HM.o]at h;exact h.mono fun e w' h=>⟨h.1,0,h.2⟩);obtain⟨on,e3⟩:=zx a3.length;have a5:=zz e3;obtain⟨sn,d3⟩:=zx sp.length;have O:=zz d3;have p5:sn+(k+1)=M+2:=(by rw[d3,HM.o];exact hS.len);have q7:on≤sn*528:=(by rw[e3,d3];exact hS.ol);have b9:=zy (folP m.D m.L m.G size (k+1) (p1,p2) a3 sp A'=R) (by have:=hS.run;rw[<-c3.o]at this;exact this);rw[<-e3]at h6 ⊢;rw[<-d3]at i6 ⊢;obtain⟨wo,rfl⟩:=zx wr;clear hS b3 e3 d3;have j6:=zy (ArE wo m {s with A:=A'} E' ov lv) (⟨u.o.dsk,HH.o.lo.more u.o.e HH.o.qk,(HH.o.rest u.o.upd).1,(HH.o.rest u.o.upd).2⟩);by_cases b7:size≤on;{have ht:decide ((on:Int)<size)=false:=yA zo;go_wp2_with fail;go_returns;show zMI w m s E (.returned (.tuple #[.slice oa size oc,.slice sa sn sc,.nilIface])) wo;have hr:R=(some (a3.take size,sp),A'):=(by rw[<-b9.o,zPt (by rw[<-a5.o];exact b7)]);refine i5.o _ _ ?_;rw[hr];exact⟨HH.o.qs u.o.dsk u.o.e u.o.upd,.inl ⟨a3.take size,sp,_,_,rfl,rfl,Bl.take u.o.obl (by rw[<-a5.o];exact b7),by rw[O.o];exact u.o.sps,u.o.ok,by rw[<-O.o,<-HM.o];omega,by rw[yR,<-a5.o,<-c3.o];omega,by rw[<-c3.o,<-HM.o];omega⟩⟩}
  ·have ht:decide ((on:Int)<size)=true:=yG zo;have d4:=zy (¬size≤a3.length) (by rw[<-a5.o];exact b7);go_upto_region 5 with fail;have a8:(M<sn∨p1<1∨M≤p1)->∀nq,zMI w m s E (.returned (.tuple #[.slice none 0 0,.slice none 0 0,.iface 54 (I 3)])) (wo.drewN nq):=fun h nq=>(by have hr:R=(none,A'):=(by rw[<-b9.o,zPu d4.o (by rw[u.o.mm,<-HM.o,<-O.o];exact h)]);refine i5.o _ _ ?_;rw[hr];have hb:=below_drewN (yh wo wo) nq;exact⟨HH.o.qs (u.o.dsk.later hb) u.o.e (u.o.upd.trans (Upd.of_below hb) fun _ h _=>h.elim),.inr ⟨rfl,rfl⟩⟩);by_cases h1:M<sn;{have t1:decide ((M:Int)<sn)=true:=yG zo;go_quiet ((go_at_call 29;exact Calls.quiet_of (c6.o _)));go_wp2_with fail;go_returns;exact a8 (.inl h1) _}
   ·have t1:decide ((M:Int)<sn)=false:=yA zo;by_cases h2:p1<1;{have t2:decide ((p1:Int)<1)=true:=yG zo;go_quiet ((go_at_call 29;exact Calls.quiet_of (c6.o _)));go_wp2_with fail;go_returns;exact a8 (.inr (.inl h2)) _}
    ·have t2:decide ((p1:Int)<1)=false:=yA zo;by_cases h3:M≤p1;{have t3:decide ((M:Int)≤p1)=true:=yG zo;go_quiet ((go_at_call 29;exact Calls.quiet_of (c6.o _)));go_wp2_with fail;go_returns;exact a8 (.inr (.inr h3)) _}
     ·have t3:decide ((M:Int)≤p1)=false:=yA zo;go_quiet ((go_at_call 29;exact Calls.quiet_of (c6.o _)));have f7:=zy (¬(A'.m<sp.length∨p1<1∨A'.m≤p1)) (by rw[u.o.mm,<-HM.o,<-O.o];omega);have q5:sn≤M:=zo;clear a8 h1 h2 h3 t1 t2 t3 ht b7 d7 d0 c6;go_upto_region 7 with fail;rename Nat=>nq;obtain⟨we,e7⟩:=zx ((wo.drewN nq).drew);have d5:Below wo wo we:=(by rw[e7];exact(below_drewN (yh wo wo) nq).drew);have a2:=zz d5;have g9:=zz (j6.o.later d5);have b5:=(Array.getElem?_eq_some_iff.1 u.o.box).1;have k9:¬eX m E' J:=fun hx=>j6.o.qc zd J hx ⟨_,u.o.box⟩;obtain⟨κ,q8,wB,l9,d6⟩:=zH (eX m E') we;have i2:=fun n=>((l9 n).block J (yI b5 d5.size) k9).trans (d5.block J b5);have y0:=fun n=>(yk (a:=J) (i2 n)).trans g0;have y1:=fun n=>(yk (a:=⟨J,1,none⟩) (i2 n)).trans g1;refine zG (.rd [0,1,2,3] (.op 4 (.rd [5,6,7,8,9] .done))) (fun V=>∃n,V=wB n) zP zk (fun c a d v w h=>by cases d<;>exact h) (d6.o _ (by rw[<-e7];exact Upd.refl _ _)) ?_;rw[<-e7];clear e7 d5 l9 i2 g0 g1;refine zE ?_;simp only[pick,ym,yo,yi,yj];change wpQuiet _ _ _ _ (_::_::_::_::[]) _;(repeat(go_big_quiet_step (fail)));refine wpQuiet_nil ?_;clear y0 y1;have HG:=zz (zTK we p1 p2 g9.o.dsk i9);obtain⟨rm,k8⟩:=zx (m.D*44);have j4:=zz k8;have p6:44≤rm∧rm≤528:=zo;clear k8;refine zD ?_;refine zB (i:=4) rfl rfl ?_;go_wp2_with fail;refine HG.o.mono ?_;rintro e w5 ⟨E5,e1,e2,c5,⟨x,v5,d1,rfl,f4⟩ | ⟨d1,rfl⟩⟩
      ·rw[<-j4.o]at f4;have h5:=zz e1;have h7:=zy (∀c∈E5,c∈E∨w.heap.size≤c) (fun c hc=>by
        rcases e2 c hc with h | h
        ·exact u.o.e c h
        ·have:=a2.o.size;have:=u.o.upd.size;exact .inr zo)
       have b1:=zz c5;have i4:=zz d1;have i7:=zz f4;have d2:=d6.o _ c5;obtain⟨s2,Z,f1,rfl,l1,k1,s1,-⟩:=f4.shape;have r6:=i7.o.jn;have n0:=l1 zo;subst n0;have m7:=zz k1;clear e1 e2 c5 d1 f4 l1 k1;go_wp2_with fail;refine⟨d2,zE ?_⟩;clear d2 d6;simp only[pick,ym,yo,yi,yj];change wpQuiet _ _ _ _ (_::_::_::_::_::[]) _;(repeat(go_big_quiet_step (fail)));refine wpQuiet_nil ?_;refine zF ?_;have n1:=zBA;go_upto_region 10 with fail;clear n1;have j8:w.heap.size≤w5.heap.size:=(by have:=u.o.upd.size;have:=a2.o.size;have:=b1.o.size;omega);have a9:w5.heap[J]? =some (.cells #[I p1,U64 p2] 120 (0,0)):=(b1.o.block J (yI b5 a2.o.size) k9).trans ((a2.o.block J b5).trans u.o.box);have j2:=(Array.getElem?_eq_some_iff.1 a9).1;have f8:=zz a9;have g0:w5.cell? J=some (I p1):=yBl w5 J 0 _ _ (0,0) a9;have g1:w5.cell? (J,1)=some (U64 p2):=yBl w5 J 1 _ _ (0,0) a9;have l8:Vz w5 w 120 2 (.slice sa sn sc) sn (spF sp):=(by have h:=(u.o.sps.later a2.o).kept b1.o fun g hg hx=>g9.o.qc zd g hx (Vz.kd (u.o.sps.later a2.o) hg);rw[<-O.o]at h;exact h);have k4:∃c1,c1≤w5.heap.size∧w.heap.size≤c1∧Vz w5 c1 120 2 (.slice sa sn sc) sn (spF sp)∧(sn=0->c1=w5.heap.size):=(by by_cases h0:sn=0;{have hn:=u.o.nil (List.eq_nil_of_length_eq_zero (by rw[<-O.o];exact h0));rw[<-O.o]at hn;rw[hn,h0];exact⟨_,yb _,j8,Vz.nil _ _ _ _ _,fun _=>rfl⟩};{exact⟨_,j8,yb _,l8,fun h=>absurd h h0⟩});obtain⟨c1,j9,f5,l4,f9⟩:=k4;have c4:=zz l4;have e0:=zz (yr f5 f9);clear l8 l4 f5 f9 a9;go_upto_region 11 with(at_builtin;refine zAc rfl (.tmp 60) (.tmp 62) 124 rfl c1 120 (.agg #[.int .i64 0,.int .u64 0]) 2 16 underlying124 zRS rfl zo _ sn (spF sp) rfl c4.o #[I p1,U64 p2] rfl 120 rfl (by simp[Value.oneCell']) zo zo j9 ?_;intro v7 w7 g6 b2;obtain⟨g7,j7,q4,rfl,q0,m4,q9,r9,i8,-⟩:=g6.cells zo;simp only[Act.put,ya,ye,yd]);have r2:g7≠J:=fun e=>(by subst e;have n3:=fun(e:some g7=(Value.slice sa sn sc).ownBlock)=>u.o.ne g7 (by rw[<-O.o];exact e.symm) rfl;have h1:=(b2.block g7 j2 n3).trans f8.o;rw[m4]at h1;injection h1 with h1;injection h1 with h1;rw[h1]at i8;have q3:2=j7*2:=i8;have h2:=e0.o.2 zo;omega)
       have j3:¬some J=(Value.slice sa sn sc).ownBlock:=fun e=>u.o.ne J (by rw[<-O.o];exact e.symm) rfl;have f6:=(b2.block J j2 j3).trans f8.o;have b0:=zz f6;have o0:=zz (Vz.base g6 e0.o.1);have n6:=zy (Upd (eX m E) w w7) (
        ((u.o.upd.trans (Upd.of_below a2.o) fun _ h _=>h.elim).trans b1.o fun c hc a6=>zDe u.o.e hc a6).trans b2 fun c hc a6=>by
         have:=(c4.o.lt c hc.symm).1;have:=e0.o.1;omega)
       have n7:=zz (h5.o.jb b2 fun g hg a6=>by have h1:=(c4.o.lt g hg.symm).1;have h2:=e0.o.1;have h3:=HH.o.dsk.tab.lt;exact⟨HH.o.qg zo,zo,_,Vz.kd c4.o hg.symm,zd,zd,zd⟩);have f0:=zy (Rd w7 Z 0 rm (bs x)) ((m7.o.upd b2 fun _ e=>absurd rfl (Kd.ne (Vc.kd i7.o rfl) (Vz.kd c4.o e.symm) zd)).rd);have m5:=zy (Bl w7 w (.slice oa on oc) a3) (by have h1:=u.o.obl.later a2.o;have h2:=h1.kept b1.o fun g hg hx=>g9.o.qc zd g hx (Vc.kd h1 hg);have h3:=h2.kept b2 fun g hg e=>absurd rfl (Kd.ne (Vc.kd h2 hg) (Vz.kd c4.o e.symm) zd);rw[<-a5.o]at h3;exact h3);clear f6 g6 b2 i8 m4 j3;obtain⟨wf,e4⟩:=zx w7.drew;have f3:Below w7 w7 wf:=(by rw[e4];exact zA w7);have a7:=zz f3;obtain⟨κ2,p8,wC,p3,c7⟩:=zH (· =J) wf;have e5:=(Array.getElem?_eq_some_iff.1 b0.o).1;have p9:Z<w7.heap.size:=(by have:=f0.o 0 zo;exact yt _ _ this);have k7:Z≠J:=fun e=>(by have h1:=i7.o.lt Z rfl;have:=a2.o.size;omega);obtain⟨q1,e6⟩:=zx (ofB x 4);obtain⟨q2,f2⟩:=zx (ofB (fun i=>x (4+i)) 8);have HQ:=zz (yr e6 f2);have k5:q1<2^32:=(by rw[e6];exact zFr x 4);have m2:q2<2^64:=(by rw[f2];exact zQ2 _ 8);have j0:=zz (zDv (zp Z) Z 0 4 f1 x wf (fun _=>rfl) (fun i hi=>(f0.o.later f3) i zo) zo);have k0:=zz (zDv (some ⟨Z,4,none⟩) Z 4 8 (f1 - 4) (fun i=>x (4+i)) wf (fun _=>rfl) (fun i hi=>by have h:=(f0.o.later f3) (4+i) zo;rw[yc]at h;exact h) zo);rw[<-e6]at j0;rw[<-f2]at k0;have p7:IntKind.i64.wrap (q1:Int)=q1:=IntWalk.i64_in _ (by constructor<;>omega);clear e6 f2;refine zG (.rd [0,1,4,5] (.op 2 (.rd [3] (.op 6 (.rd [7] (.op 8 .done)))))) (fun V=>∃n,V=wC n) zP zk (fun c a d v w h=>by cases d<;>exact h) (c7.o _ (by rw[<-e4];exact Upd.refl _ _)) ?_;rw[<-e4];clear e4 p3;refine zE ?_;simp only[pick,ym,yo,yi,yj];change wpQuiet _ _ _ _ (_::_::_::_::[]) _;(repeat(go_big_quiet_step (fail)));refine wpQuiet_nil ?_;refine zD ?_;refine zB (i:=2) rfl rfl ?_;go_wp2_with fail;refine j0.o.mono ?_;rintro e i3 ⟨rfl,c9⟩;rw[c9];clear c9 i3;go_wp2_with fail;refine⟨c7.o _ (Upd.refl _ _),zE ?_⟩;simp only[pick,ym,yo,yi,yj];change wpQuiet _ _ _ _ (_::[]) _;(repeat(go_big_quiet_step (fail)));refine wpQuiet_nil ?_;refine zD ?_;refine zB (i:=6) rfl rfl ?_;go_wp2_with fail;refine k0.o.mono ?_;rintro e i3 ⟨rfl,c9⟩;rw[c9];clear c9 i3;go_wp2_with fail;refine⟨c7.o _ (Upd.refl _ _),zE ?_⟩;simp only[pick,ym,yo,yi,yj];change wpQuiet _ _ _ _ (_::[]) _;(repeat(go_big_quiet_step (fail)))
       refine wpQuiet_nil ?_;refine zD ?_;refine zB (i:=8) rfl rfl ?_;simp only[yAp,yAj,yAi];have m0:Row wf J 0 2 (atF (p1,p2)):=by
        have hb:=(f3.block J e5).trans b0.o;refine⟨fun i hi=>?_,fun i hi=>?_⟩
        ·rw[yc,yBl wf J i _ _ (0,0) hb]
         match i,hi with | 0,_ | 1,_=>rfl
        {rw[yc];unfold World.frozen?;rw[hb];simp}
       refine zC (g:=atF (q1,q2)) rfl 120 (.tmp 7) (.tmp 71) rfl rfl rfl m0 rfl (fun i hi=>by unfold atF;split<;>rfl) ?_;intro w9 b4 l0 e8 l3;simp only[Act.put,ya,ye,yd];refine wpList_nil ?_;refine⟨c7.o _ b4,zF ?_⟩;clear c7;have k3:=zz l3;have o9:=zz ((n7.o.later a7.o).jb b4 fun g hg a6=>by have n5:=hg;subst n5;have h3:=HH.o.dsk.tab.lt;have h4:=u.o.gbl;exact⟨HH.o.qg h4,zo,_,⟨_,(a7.o.block g e5).trans b0.o⟩,zd,zd,zd⟩);have l7:=zy (Upd (eX m E) w w9) ((n6.o.trans (Upd.of_below a7.o) fun _ h _=>h.elim).trans b4 fun c hc a6=>by have r3:=hc;have:=u.o.gbl;omega);have l6:=zz ((o0.o.later a7.o).kept b4 fun g hg e=>by have e':=e;simp only[Value.ownBlock]at hg;injection hg with hg;omega);have p0:=zz ((m5.o.later a7.o).kept b4 fun g hg e=>by have e':=e;subst e';exact absurd rfl (Kd.ne (Vc.kd (m5.o.later a7.o) hg) (⟨_,(a7.o.block g e5).trans b0.o⟩:Kd wf g 120) zd));have m8:=zy (Rd w9 Z 0 rm (bs x)) ((f0.o.later a7.o).upd b4 fun _ e=>k7 e);have r8:=l0;have l5:Kd w9 J 120:=e8 _ _ ⟨_,(a7.o.block J e5).trans b0.o⟩;clear b4 e8 l3 m0 l0;have m3:Rd w9 Z 12 (rm - 12) (rb (lx ((xl rm x).drop 12))):=fun i hi=>(by have h:=m8.o (12+i) zo;rw[yc]at h;rw[h];show some (B _)=some (B _);have e:lx ((xl rm x).drop 12) i=lx (xl rm x) (12+i):=(by unfold lx;simp[yg]);rw[e,zTR _ _ _ zo]);have n2:=l7.o.size;have a4:=zy (Vc w9 w 5 (.slice oa on oc) on (rb (lx a3))) (by have h:=p0.o;unfold Bl at h;rw[<-a5.o]at h;exact h);have r7:¬f1=12:=zo;go_upto_region 13 with(at_builtin;refine zU rfl (.tmp 72) (.tmp 74) 31 rfl w 5 (.int .u8 0) 1 underlying31 zBP rfl _ on _ rfl a4.o (some ⟨Z,12,none⟩) (rm - 12) (f1 - 12) Z 12 (rb (lx ((xl rm x).drop 12))) rfl (fun _=>rfl) m3 (fun _ _=>rfl) zo zd n2 ?_;intro v8 a1 i1 g2;obtain⟨n9,q6,o8,rfl,-⟩:=i1.shape;simp only[Act.put,ya,ye,yd]);have a0:Upd (fun b=>some b=(Value.slice oa on oc).ownBlock) w9 a1:=g2;have k6:=k3.o;have e8:=l5;have j1:¬some J=(Value.slice oa on oc).ownBlock:=fun e=>absurd rfl (Kd.ne (Vc.kd a4.o e.symm) e8 zd);have g5:=zz (k3.o.upd a0 fun _=>j1);have m1:=zz (o9.o.jb a0 fun g hg a6=>by have h1:=(a4.o.lt g hg.symm).1;have h3:=HH.o.dsk.tab.lt;exact⟨HH.o.qg h1,zo,_,Vc.kd a4.o hg.symm,zd,zd,zd⟩);have g4:=zy (Upd (eX m E) w a1) (l7.o.trans a0 fun c hc a6=>by have h1:=(a4.o.lt c hc.symm).1;omega);have g3:=zz (l6.o.kept a0 fun g hg e=>absurd rfl (Kd.ne (Vz.kd l6.o hg) (Vc.kd a4.o e.symm) zd));have j5:=zy (Bl a1 w (.slice n9 (on+(rm - 12)) o8) (a3++(xl rm x).drop 12)) (by have hl:on+(rm - 12)=a3.length+((xl rm x).drop 12).length:=(by rw[a5.o,yAA,zLJ]);have h:=i1;rw[hl]at h ⊢;rw[a5.o]at h;exact Bl.snd h);have r0:a1.cell? J=some (I q1):=g5.o.cell 0 zo;have r1:a1.cell? (J,1)=some (U64 q2):=g5.o.cell 1 zo;clear i1 g2 a0 j1 k6;go_wp2_with fail;obtain⟨k',rfl⟩:∃k',k=k'+1:=⟨k - 1,zo⟩;go_roundg (k'+1);(case measure=>omega)
       case rel=>
        have b6:Below a1 a1 (a1.alloc (.cells #[.int .i64 (q1:Int),.int .u64 (q2:Int)] 120)):=(yh _ a1).alloc (yb _) _;have c0:=b9.o;rw[zNq d4.o f7.o i4.o]at c0;dsimp only at c0;rw[<-HQ.o.1,<-HQ.o.2,<-j4.o,c3.o]at c0;have g8:(sp++[(p1,p2)]).length=sn+1:=(by rw[yB,<-O.o];rfl);refine⟨k',(q1,q2),_,sp++[(p1,p2)],_,E5,a1.heap.size,rfl,rfl,⟨zo,by rw[g8,<-HM.o];omega,c0,(zNs _ _ _ _ _ _).trans u.o.mm,k5,m2,fun y hy=>?_,g4.o.size,Deep.blk_alloc_new a1 _,j5.o.later b6,fun h=>absurd h zs,?_,fun g hg e=>?_,m1.o.later b6,h7.o,g4.o.trans (Upd.of_below b6) fun _ h _=>h.elim,?_⟩⟩;{rcases List.mem_append.1 hy with hy | hy;{exact u.o.ok y hy};{rw[List.mem_singleton.1 hy];exact⟨n8,i9⟩}}
        ·rw[g8];refine(g3.o.later b6).congr fun i hi j hj=>?_;by_cases h:i<sn;{rw[yq h];unfold spF;rw[yg,yg,yQ (by rw[<-O.o];exact h)]}
         ·obtain rfl:i=sn:=zo;rw[yl h];unfold spF;rw[yg,yAC (by rw[<-O.o];exact yb _),<-O.o,Nat.sub_self]
          match j,hj with | 0,_ | 1,_=>rfl
        {have:=(g3.o.lt g hg).2;omega};{rw[g8,yB,yAA,zLJ,<-a5.o];omega}
      ·have h5:=zz e1;have h7:=zy (∀c∈E5,c∈E∨w.heap.size≤c) (fun c hc=>by
        rcases e2 c hc with h | h
        ·exact u.o.e c h
        ·have:=a2.o.size;have:=u.o.upd.size;exact .inr zo)
       have b1:=zy (Upd (eX m E) w w5) ((u.o.upd.trans (Upd.of_below a2.o) fun _ h _=>h.elim).trans c5 fun c hc a6=>zDe u.o.e hc a6);have i4:=zz d1;have d2:=d6.o _ c5;clear e1 e2 c5 d1;go_wp2_with fail;refine⟨d2,zE ?_⟩;clear d2 d6;simp only[pick,ym,yo,yi,yj];change wpQuiet _ _ _ _ (_::_::_::_::_::[]) _;(repeat(go_big_quiet_step (fail)));refine wpQuiet_nil ?_;refine zF ?_;have n1:∀w:World,(binOp .neq 42 (.iface 54 (I 3)) .nilIface).run prog w=.ok (.bool true) w:=fun w=>(by kernel_rfl);go_wp2_with fail;go_returns;show zMI w m s E (.returned (.tuple #[.slice none 0 0,.slice none 0 0,.iface 54 (I 3)])) w5;have hr:R=(none,(getP m.D m.L m.G p1 p2 A').2):=(by rw[<-b9.o,zNp d4.o f7.o i4.o]);refine i5.o _ _ ?_;rw[hr];exact⟨HH.o.qs h5.o h7.o b1.o,.inr ⟨rfl,rfl⟩⟩
end Go.Proofs.YtonfdlhikinldaaGreatDoor
namespace Go.Proofs.YtonfdlhikinldaaGreatDoor
open Go Go.RowKit Go.Proofs Lin Go.Maps Go.Proofs.Tryz
theorem UM.has{w:zw}{mb n:Nat}{l:List Nat}{D:DataW Unit}(J:∀x:Nat,D.atKey (.int .i64 x) (.lit (.int .i64 0))=.lit (.int .i64 (l.count x:Nat))){x:Nat}(O:x∈l):Maps.has D (.int .i64 x)=true:=by
 by_cases h:Maps.has D (.int .i64 x)=true;{exact h};{exfalso;have u:=J x;rw[Maps.atKey_of_not_has (by simpa using h)]at u;have V:=List.count_pos_iff.2 O;injection u with u;injection u with _ u;omega}
theorem zT2(w:zw)(m:Loc)(s:Ast){E:List Nat}{ov lv:Value}(H:ArE w m s E ov lv)(oa:Option Addr)(ob oc:Nat)(L:List Ob)(K:Nat->UInt8)(S:Nat->Il)(b2:zBN w oa ob oc L K S)(sa:Option Addr)(sb sc:Nat)(sp:List (Nat × Nat))(b3:zFR w sa sb sc sp)
  (hl:L.length≤1000000)(n8:sp.length≤1000001)(hb:(L.flatMap Ob.blk).length≤1000000)(hm:s.A.m≤1000000):
  Calls prog 73 #[m.ar,.slice oa L.length oc,.slice sa sp.length sc] w fun e w'=>e=.returned (.bool (zCv m.D s.A.m L sp))∧Below w w w':=by
 have HH:=zz H;have V:=UM.made w;have i9:=V.put zo 0 zo;obtain⟨w2,f7,e7,l4⟩:=i9;have h6:=zz e7;have b9:=zz (Below.upd ((yh w w).alloc (yb _) (.map #[] 0)) l4 (fun b e=>zo) zs);have h4:(Instr.mapUpdate 236 (.map (some w.heap.size)) (.int .i64 0) (.int .i64 1)).run prog (w.alloc (.map #[] 0))=.ok () w2:=f7;have q1:=@run_makeMap prog;have h8:=zz b3;have e6:=zz b2;have i2:=b3.els.cap;have p4:=b3.els.max;have g9:=b2.els.cap;have m3:=b2.els.max;obtain⟨n1,i0⟩:=zx sp.length;have a3:=zz i0;obtain⟨n2,i1⟩:=zx L.length;have b7:=zz i1;rw[<-i0]at i2 n8 ⊢;rw[<-i1]at g9 hl ⊢;clear H V e7 l4 f7 b2 b3 i0 i1;go_enter func73,ntmps73;go_upto_region 2 with fail;clear h4;obtain⟨mb,i3⟩:=zx w.heap.size;have l9:=zz i3;rw[<-i3]at h6 ⊢;clear i3;have a6:=zy (∀g t:Nat,Kd w2 g t->¬g=mb) (fun g t hk e=>h6.o.qd (e▸hk));have f4:=zy (zFR w2 sa sb sc sp) (h8.o.upd (Upd.of_below b9.o) fun _ h=>h.elim);have c5:=zz (e6.o.later b9.o);go_upto_region 3 with fail;go_loopg [20] n1 (fun g iv wr=>∃k:Nat,g=n1 - k∧k≤n1∧iv=I k∧UM wr mb (k+1) (((sp.take k).map Prod.fst).reverse++[0])∧Upd (· =mb) w2 wr);(case atStart=>exact⟨0,rfl,zo,rfl,by simpa using h6.o,Upd.refl _ _⟩)
 case round=>
  obtain⟨k,rfl,hk,rfl,V,hu⟩:=hrel;have c6:=zz hu;have a2:=zz V;clear V;obtain⟨wo,rfl⟩:=zx wr;by_cases g7:k<n1;{have c3:=h8.o.els.addr (by rw[<-a3.o];omega);have J:=fun t (ht:t<2)=>(f4.o.els.upd hu fun _=>a6.o _ _ (f4.o.kd (by rw[<-a3.o];omega))).at (show k<sp.length by rw[<-a3.o];exact g7) ht;have x0:wo.cell? (sb,k*2)=some (I (sp.getD k (0,0)).1):=(by have:=J 0 zo;rwa[yc,yAk]at this);have x1:wo.cell? (sb,k*2+1)=some (U64 (sp.getD k (0,0)).2):=(by have:=J 1 zo;rwa[yc]at this);have c0:=zy (sp.take (k+1)=sp.take k++[sp.getD k (0,0)]) (by rw[yg,yx (by rw[<-a3.o];exact g7)];simp);have h9:(sp.getD k (0,0)).1<2^32:=(by have l1:k<sp.length:=(by rw[<-a3.o];exact g7);rw[yg,yx l1];exact(h8.o.ok _ (yAo l1)).1);obtain⟨px,b6⟩:=zx (sp.getD k (0,0));rw[<-b6]at c0 h9;simp only[<-b6]at x0 x1;clear J b6 hu;obtain⟨p1,p2⟩:=px;dsimp only at *;rw[c3];have a1:Below wo wo (wo.alloc (.cells #[.int .i64 (p1:Int),.int .u64 (p2:Int)] 120)):=(yh _ wo).alloc (yb _) _;have a0:=Row.lit wo #[.int .i64 (p1:Int),.int .u64 (p2:Int)] 120;have p9:(wo.alloc (.cells #[.int .i64 (p1:Int),.int .u64 (p2:Int)] 120)).cell? wo=some (.int .i64 (p1:Int)):=a0.cell 0 zs;have d7:=a2.o.later a1;have b4:=zz a1;clear a0 a1;go_upto_region 5 with fail;generalize wo.alloc (.cells #[.int .i64 (p1:Int),.int .u64 (p2:Int)] 120)=w5 at *;have a7:=d7.look p1 zo;obtain⟨w6,a8,a4,d5⟩:=d7.put zo p1 zo;obtain⟨cnt,O⟩:=zx (List.count p1 (((sp.take k).map Prod.fst).reverse++[0]));have n7:cnt≤1000002:=(by have:=List.count_le_length (a:=p1) (l:=((sp.take k).map Prod.fst).reverse++[0]);rw[yB,List.length_reverse,yH,yR,yF,yK]at this;omega);rw[<-O]at a7 a8;have i4:=zz a4;have g6:=zz ((c6.o.trans (Upd.of_below b4.o) (fun _ h _=>h.elim):Upd (· =mb) w2 w5).trans d5 (fun _ h _=>h));clear d7 a4 d5 O x0 x1;go_wp2_with fail;rw[<-c3];go_roundg (n1 - (k+1));(case measure=>omega);(case rel=>refine⟨k+1,rfl,zo,by go_num,?_,g6.o⟩;have h:=i4.o;rw[c0.o];simpa using h)}
  ·obtain rfl:k=n1:=zo;obtain⟨l0,a9⟩:=zx ((sp.map Prod.fst).reverse++[0]);have n0:=zz a9;have k9:l0.length=k+1:=(by rw[a9];simp[a3.o]);have n5:=zy (UM wo mb l0.length l0) (by have h:=a2.o;rw[a3.o,yAD,<-a9,<-a3.o,<-k9]at h;exact h);have j6:=zy (Upd (· =mb) w2 wo) hu;clear a9 hu a2 c6;go_upto_region 8 with fail;obtain⟨W1,o0⟩:=zx wo;go_loopg [32] n2 (fun g iv wr=>∃k:Nat,g=n2 - k∧k≤n2∧iv=I k∧UM wr mb (((L.take k).flatMap Ob.blk).reverse++l0).length (((L.take k).flatMap Ob.blk).reverse++l0)∧Upd (· =mb) w2 wr∧∀j,j<k->(L.getD j Obd).blk.length=zEb m.D (L.getD j Obd).size);(case atStart=>exact⟨0,rfl,zo,rfl,by simpa using n5.o,j6.o,fun j h=>absurd h zo⟩)
   case round=>
    obtain⟨i,rfl,hi,rfl,V,hu,e8⟩:=hrel;have c6:=zz hu;have a2:=zz V;have d6:=zz e8;clear V e8;obtain⟨Z,rfl⟩:=zx wr;by_cases f3:i<n2
    ·have k7:=e6.o.els.addr (by rw[<-b7.o];omega);have c4:i<L.length:=(by rw[<-b7.o];exact f3);have J:=fun t (ht:t<5)=>(c5.o.els.upd hu fun _=>a6.o _ _ (c5.o.kd zo)).at c4 ht;obtain⟨o,b5⟩:=zx (L.getD i Obd);have i5:o∈L:=(by rw[b5,yg,yx c4];exact yAo c4);have g8:=zz (e6.o.ok o i5);have k8:=zz (yr i5 b5);have HI:=zy (zFA Z (S i) o.blk) (by have h:=(c5.o.blk i c4).upd hu fun b hb hk=>a6.o _ _ hk hb;rw[b5];exact h);have c0:=zy (L.take (i+1)=L.take i++[o]) (by rw[b5,yg,yx c4];simp)
     rw[<-b5]at J;have d0:Z.cell? (ob,i*5)=some (B (K i)):=(by have:=J 0 zo;rwa[yc,yAk]at this);have d1:Z.cell? (ob,i*5+1)=some (.string o.name):=(by have:=J 1 zo;rwa[yc]at this);have d2:Z.cell? (ob,i*5+2)=some (I o.size):=(by have:=J 2 zo;rwa[yc]at this);have d3:Z.cell? (ob,i*5+3)=some (U64 o.seq):=(by have:=J 3 zo;rwa[yc]at this);have d4:Z.cell? (ob,i*5+4)=some (.slice (S i).a o.blk.length (S i).c):=(by have:=J 4 zo;rwa[yc]at this);have m1:=zy (((L.take i).flatMap Ob.blk).length+o.blk.length≤(L.flatMap Ob.blk).length) (by
      have e:L=L.take (i+1)++L.drop (i+1):=(yBB _ _).symm;rw[c0.o]at e
      conv=>rhs;rw[e]
      simp[yAL])
     clear J b5 i5;obtain⟨nm,sz,sq,bl⟩:=o;dsimp only at *;generalize(K i)=kj at *;generalize(S i)=sj at *;obtain⟨nb,f9⟩:=zx bl.length;have a5:=zz f9;rw[<-f9]at d4;clear f9;rw[k7];have a1:Below Z Z (Z.alloc (.cells #[.int .u8 (kj.toNat:Int),.string nm,.int .i64 (sz:Int),.int .u64 (sq:Int),.slice sj.a nb sj.c] 160)):=(yh _ Z).alloc (yb _) _;have a0:=Row.lit Z #[.int .u8 (kj.toNat:Int),.string nm,.int .i64 (sz:Int),.int .u64 (sq:Int),.slice sj.a nb sj.c] 160;have k4:(Z.alloc (.cells #[.int .u8 (kj.toNat:Int),.string nm,.int .i64 (sz:Int),.int .u64 (sq:Int),.slice sj.a nb sj.c] 160)).cell? (Z,4)=some (.slice sj.a nb sj.c):=a0.cell 4 zs;have p5:(Z.alloc (.cells #[.int .u8 (kj.toNat:Int),.string nm,.int .i64 (sz:Int),.int .u64 (sq:Int),.slice sj.a nb sj.c] 160)).cell? (Z,2)=some (I sz):=a0.cell 2 zs;have b4:=zz a1;have u:=zy (Below w w Z) (Below.upd b9.o hu (fun b e=>by have e':=e;rw[e',l9.o];exact yb _) b9.o.size);have e1:=zz (fun q=>zHT (World.drewN _ q) m s (HH.o.later (u.o.trans ((a1.trans ((below_drewN (yh _ _) q).mono a1.size)).mono u.o.size))) sz (by have:=g8.o.size;dsimp only at this;omega));have m8:zEb m.D sz≤10000000000:=(by unfold zEb;exact yC (yAP _ _) (by have:=g8.o.size;have:=HH.o.dsk.arc.right.d2;dsimp only at *;omega));obtain⟨st,d8⟩:=zx (zEb m.D sz);have f6:=zz d8;rw[<-d8]at e1 m8;clear a0 a1 hu d8;go_upto_region 10 with fail;generalize Z.alloc (.cells #[.int .u8 (kj.toNat:Int),.string nm,.int .i64 (sz:Int),.int .u64 (sq:Int),.slice sj.a nb sj.c] 160)=w5 at *;clear d0 d1 d2 d3 d4;by_cases e3:nb=st;{have hq:((nb:Int)==st)=true:=(by simp[e3]);have l5:((nb:Int) !=st)=false:=(by simp[e3]);go_quiet ((go_at_call 89;exact Calls.quiet_of (e1.o _)));rename Nat=>nq;have k0:=zz (below_drewN (yh w5 w5) nq);obtain⟨li,e5⟩:=zx (((L.take i).flatMap Ob.blk).reverse++l0);have l6:li.length=((L.take i).flatMap Ob.blk).length+l0.length:=(by rw[e5];simp);have n6:=zz e5;rw[<-e5]at a2;have h0:=zz (b4.o.trans (k0.o.mono b4.o.size));have j2:=zz (a2.o.later h0.o);have o9:=zz (HI.o.later h0.o);have p7:li.length+nb≤3000003:=(by have:=m1.o;have:=a5.o;omega);have p6:(w5.drewN nq).cell? (Z,4)=some (.slice sj.a nb sj.c):=k4;clear e5 l6 hq l5 k4 p5 k0 e1;generalize w5.drewN nq=w7 at *;go_upto_region 13 with fail;go_loopg [47] nb (fun g iv wr=>∃j:Nat,g=nb - j∧j≤nb∧iv=I j∧UM wr mb ((bl.take j).reverse++li).length ((bl.take j).reverse++li)∧Upd (· =mb) w7 wr);(case atStart=>exact⟨0,rfl,zo,rfl,by simpa using j2.o,Upd.refl _ _⟩);(case round=>obtain⟨j,rfl,hj,rfl,V,hu⟩:=hrel;have k1:=zz hu;have a0:∀g t:Nat,Kd w7 g t->¬g=mb:=fun g t hk e=>j2.o.qd (e▸hk);have d9:=zz (o9.o.upd hu fun b hb hk=>a0 _ _ hk hb);clear a0 hu;obtain⟨wj,rfl⟩:=zx wr;by_cases j5:j<nb;{have c3:=d9.o.addr (by rw[<-a5.o];omega);have e4:j<bl.length:=(by rw[<-a5.o];exact j5);have x0:wj.cell? (sj.b,sj.o+j)=some (I (bl.getD j 0:Nat)):=d9.o.rd j e4;have j0:=zy (bl.take (j+1)=bl.take j++[bl.getD j 0]) (by rw[yg,yx e4];simp);have i7:bl.getD j 0<2^32:=(by rw[yg,yx e4];exact g8.o.small _ (yAo e4));obtain⟨px,b6⟩:=zx (bl.getD j 0);rw[<-b6]at j0 i7 x0;clear b6;have n3:=d9.o.cap;have p8:=d9.o.max;rw[<-a5.o]at n3;rw[c3];have a7:=V.look px zo;have i8:((bl.take j).reverse++li).length≤3000003:=(by rw[yB,List.length_reverse,yR];omega);obtain⟨w6,a8,a4,d5⟩:=V.put zo px zo;obtain⟨cnt,O⟩:=zx (List.count px ((bl.take j).reverse++li));have n7:cnt≤3000003:=(by have:=List.count_le_length (a:=px) (l:=(bl.take j).reverse++li);omega);rw[<-O]at a7 a8;have i4:=zz a4;have g6:=zz (k1.o.trans d5 (fun _ h _=>h));clear V a4 d5 O i8;go_wp2_with fail;rw[<-c3];go_roundg (nb - (j+1));(case measure=>omega);(case rel=>refine⟨j+1,rfl,zo,by go_num,?_,g6.o⟩;have h:=i4.o;have e:(bl.take (j+1)).reverse++li=px::((bl.take j).reverse++li):=(by rw[j0.o];simp);rw[e];exact h)};{obtain rfl:j=nb:=zo;have m9:=zz V;clear V;go_wp2_with fail;rw[<-k7];go_roundg (n2 - (i+1));(case measure=>omega);(case rel=>refine⟨i+1,rfl,zo,by go_num,?_,(c6.o.trans (Upd.of_below h0.o) (fun _ h _=>h.elim):Upd (· =mb) w2 w7).trans k1.o (fun _ h _=>h),fun t ht=>?_⟩;{have h:=m9.o;have e:((L.take (i+1)).flatMap Ob.blk).reverse++l0=(bl.take j).reverse++li:=(by rw[c0.o,n6.o,a5.o,yAD,yAL];simp);rw[e];exact h};{by_cases h:t<i;{exact d6.o t h};{obtain rfl:t=i:=zo;rw[<-k8.o.2];show bl.length=zEb m.D sz;rw[<-a5.o,<-f6.o,e3]}})})};{have hq:((nb:Int)==st)=false:=(by simp;omega);have l5:((nb:Int) !=st)=true:=(by simp;omega);go_quiet ((go_at_call 89;exact Calls.quiet_of (e1.o _)));rename Nat=>nq;go_wp2_with fail;go_ret;refine⟨?_,u.o.trans ((b4.o.trans ((below_drewN (yh w5 w5) nq).mono b4.o.size)).mono u.o.size)⟩;have hf:zCv m.D s.A.m L sp=false:=(by unfold zCv;have h:L.all (fun o=>decide (o.blk.length=zEb m.D o.size))=false:=(by rw[List.all_eq_false];exact⟨_,k8.o.1,by simp only[yL];rw[<-a5.o,<-f6.o];exact e3⟩);rw[h];rfl);rw[hf];rfl}
    {obtain rfl:i=n2:=zo;obtain⟨ul,h7⟩:=zx (zCF L sp);have j4:=zz h7;have m7:UM Z mb ul.length ul:=(by have h:=a2.o;rw[b7.o,yAD,n0.o]at h;rw[h7];exact h);have c9:=zy (L.all (fun o=>decide (o.blk.length=zEb m.D o.size))=true) (by rw[yW];intro o ho;obtain⟨j,hj,rfl⟩:=yBv ho;have h:=d6.o j (by rw[b7.o];exact hj);have e:L.getD j Obd=L[j]:=(by rw[yg,yx hj];rfl);rw[e]at h;simpa using h);obtain⟨D,g1,g2,g3,g4,g5⟩:=m7;have HG:=zz (yr g2 g3);have u:=zy (Below w w Z) (Below.upd b9.o hu (fun b e=>by have e':=e;rw[e',l9.o];exact yb _) b9.o.size);clear h7 hu g2 g3 g4 g5 a2 o0 c6 d6;go_upto_region 19 with(at_range;refine wpList_range_own _ rfl (.tmp 57) 236 rfl 3 3 zLq underlying236 (plainElem prog 3) mb _ D rfl g1 ?_;intro w0 e9 j7 p3;go_frame);have j8:=Below.upd (yh _ _) (Upd.of_grown j7) (fun b e=>by simp at e) (yb _);have n9:=zz j8;have m2:=zz e9;clear e9 j7 p3 j8 g1;go_loopg [] (Maps.size D) (fun g wr=>∃(left:Lit->Bool) (cnt:Nat),cnt=g∧wr.ranges prog 3 (plainElem prog 3) mb Z ul.length D left cnt∧(∀kl,left kl=true->Maps.has D kl=true)∧(∀x∈ul,left (.int .i64 (x:Nat))=true∨(ul.count x≤1∧x<s.A.m))∧Below Z Z wr);(case atStart=>exact⟨_,_,rfl,m2.o,fun _ h=>h,fun x hx=>.inl (UM.has (w:=Z) (mb:=mb) (n:=0) HG.o.1 hx),n9.o⟩);(case round=>obtain⟨left,cnt,k2,g0,k5,hx,k6⟩:=hrel;have n4:=zz k2;have e0:=zz (yr k5 hx);have c1:=zz k6;clear k2 k5 hx k6;go_wp2_with (at_next;refine wpList_next_ranges_ii _ rfl (.tmp 58) rfl 3 3 .i64 .i64 zLq underlying3 underlying3 mb Z _ D left cnt rfl g0 ?_ ?_);{intro q0 a9;have o8:=zz a9;have l7:=zz (zJo wr oa ob oc L K S (e6.o.later (u.o.trans (c1.o.mono u.o.size))) (by rw[<-b7.o];exact hl));rw[<-b7.o]at l7;clear a9 g0;go_wp2_with (go_at_call 105;refine l7.o.mono ?_;rintro e w9 ⟨rfl,j1⟩;have p0:=zz j1;clear j1);go_ret;refine⟨?_,u.o.trans ((c1.o.trans (p0.o.mono c1.o.size)).mono u.o.size)⟩;have hf:zCv m.D s.A.m L sp=zJn L:=(by unfold zCv;rw[c9.o,<-j4.o];have h:ul.all (fun b=>decide (ul.count b≤1)&&decide (b<s.A.m))=true:=(by rw[yW];intro x hx;rcases e0.o.2 x hx with h | h;{rw[o8.o]at h;cases h};{simp[h.1,h.2]});rw[h];simp);rw[hf];rfl};{intro x c e2 f5 m4 m6 k3 J f0 f3 l8 q3 q2;obtain⟨xn,i6,m0⟩:=HG.o.2 _ (e0.o.1 _ k3);injection i6 with _ i6;subst i6;have b0:=J (.lit (.int .i64 0));rw[HG.o.1 xn]at b0;injection b0 with b0;injection b0 with _ b0;obtain⟨cn,O⟩:=zx (ul.count xn);have j9:=zz O;rw[<-O]at b0;subst b0;have l3:=zz f0;have m5:=zz m0;have b1:=zy (Below Z Z e2) (Below.upd c1.o (Upd.of_grown l8) (fun b e=>by injection e with e;omega) c1.o.size);have h5:=zz (HH.o.dsk.later (u.o.trans (b1.o.mono u.o.size)));have d0:=h5.o.arc.c0;have f8:=zz (show Calls prog 29 #[m.l.ab] e2 fun e w'=>e=.returned (I s.A.m)∧w'=e2 from by have h:=zCZ e2 m.l s.A h5.o.arc.arr;rw[h5.o.arc.n,yl (by have:=HH.o.dsk.arc.right.d1;omega)]at h;exact h);obtain⟨M,hM⟩:=zx s.A.m;have HM:=zz hM;rw[<-hM]at f8;have f2:(1<cn∨M≤xn)->zCv m.D s.A.m L sp=false:=fun h=>(by unfold zCv;rw[c9.o,<-j4.o];have h2:ul.all (fun b=>decide (ul.count b≤1)&&decide (b<s.A.m))=false:=(by rw[List.all_eq_false];refine⟨xn,m5.o,?_⟩;rw[<-j9.o,<-HM.o];simp;omega);rw[h2];rfl);have f1:=zz f2;clear m4 m6 k3 J f0 l8 m0 O g0 f2 hM;by_cases h1:1<cn;{have t1:decide ((1:Int)<cn)=true:=yG zo;go_wp2_with fail;go_ret;refine⟨?_,u.o.trans (b1.o.mono u.o.size)⟩;rw[f1.o (.inl h1)];rfl};{have t1:decide ((1:Int)<cn)=false:=yA zo;by_cases h3:M≤xn;{have t3:decide ((M:Int)≤xn)=true:=yG zo;go_wp2_with (go_at_call 29;refine f8.o.mono ?_;rintro e w3 ⟨rfl,c7⟩;rw[c7];clear c7 w3);go_ret;refine⟨?_,u.o.trans (b1.o.mono u.o.size)⟩;rw[f1.o (.inr h3)];rfl};{have t3:decide ((M:Int)≤xn)=false:=yA zo;go_wp2_with (go_at_call 29;refine f8.o.mono ?_;rintro e w3 ⟨rfl,c7⟩;rw[c7];clear c7 w3);go_roundg f5;(case measure=>have:=n4.o;omega);(case rel=>refine⟨_,f5,rfl,l3.o,fun kl j3=>e0.o.1 kl (by simp only[yD]at j3;exact j3.1),fun y hy=>?_,b1.o⟩;by_cases e:y=xn;{subst e;exact .inr ⟨by rw[<-j9.o];omega,by rw[<-HM.o];omega⟩};{rcases e0.o.2 y hy with h | h;{refine .inl ?_;rw[h];simp[Lit.sameKey];omega};{exact .inr h}})}}})}
end Go.Proofs.YtonfdlhikinldaaGreatDoor
namespace Go.Proofs.YtonfdlhikinldaaGreatDoor
open Go Go.RowKit Go.Proofs Lin Go.Proofs.Tryz
variable {ov lv:Value}{E:List Nat}{o:Option Nat}
theorem zEI{α β:Type}(f:α->List β):∀(l:List α) (i:Nat),((l.eraseIdx i).flatMap f).length≤(l.flatMap f).length
 | [],_=>zs
 | x::l,0=>by simp[List.eraseIdx]
 | x::l,i+1=>by
  have:=zEI f l i;simp only[List.eraseIdx_cons_succ,yBd,yB];omega
theorem zL8(L:List Ob)(i:Nat):(zCE (L.eraseIdx i)).length≤(zCE L).length:=by
 rw[zA8,zA8];have:=zEI (Ob.bytes 1) L i;omega
def deleteR(D L G:Nat)(s:Ast)(n:ByteArray):Option Nat × Ast:=
 match(zAf s.L n).2 with
 | some e=>(some e,s)
 | none=>commitD D L G s (s.L.eraseIdx (zAf s.L n).1)
theorem zK9{s:Ast}{n:ByteArray}(h:(zAf s.L n).2=none):(zAf s.L n).1<s.L.length:=by
 unfold zAf at h ⊢;split at h;{cases h};{rename_i h3;rw[yl h3];split at h;{rename_i h4;rw[yq h4];unfold zHQ at h4;simp at h4;exact h4.1};{cases h}}
structure Bd (s:Ast):Prop where
 srt:zAd s.L
 l:s.L.length≤1000000
 cat:(zCE s.L).length≤400000
 sp:s.sp.length≤1000000
 bk:(s.L.flatMap Ob.blk).length≤1000000
 m:s.A.m≤1000000
 ok:s.h.ok
theorem zTE(w:zw)(m:Loc)(s:Ast)(n:ByteArray)(b0 b1:Nat)(H:ArE w m s E ov lv)(O:Bd s)
  (h0:Row w b0 0 1 (fun _=>.pointer (zp (m.ar))))(k0:Kd w b0 95)(h1:Row w b1 0 1 (fun _=>.string n)):
  Calls prog 61 #[b0,b1] w fun e w'=>e=.returned (zAk (deleteR m.D m.L m.G s n).1)∧ArR w m E (deleteR m.D m.L m.G s n).2 w':=by
 have HH:=zz H;have u:=zz O;have c0:w.cell? b0=some (.pointer (zp (m.ar))):=h0.cell 0 zo;have c1:w.cell? b1=some (.string n):=h1.cell 0 zo;have H0:=zz (yr h0 k0);have HF:=zz (zKD w m s n H O.srt O.l);have HR:=zz (show deleteR m.D m.L m.G s n=match(zAf s.L n).2 with
 | some e=>(some e,s)
 | none=>commitD m.D m.L m.G s (s.L.eraseIdx (zAf s.L n).1)from rfl)
 have d6:=zz (zK9 (s:=s) (n:=n));generalize zAf s.L n=fr at *;obtain⟨i,er⟩:=fr;dsimp only at *;clear H O h0 h1 k0;(cases er with |some er=>(have HE:=zy (zAk (some er)=.iface 54 (I er)) rfl;have n1:∀w:World,(binOp .neq 42 (.iface 54 (I er)) .nilIface).run prog w=.ok (.bool true) w:=fun w=>(by kernel_rfl);go_enter func61,ntmps61;go_wp2_with (go_at_call 59;refine HF.o.mono ?_;rintro e w1 ⟨rfl,J⟩;rw[HE.o];have a0:=zz J;clear J);go_ret;refine⟨by rw[HR.o];rfl,?_⟩;rw[HR.o];exact HH.o.refl.qx a0.o)|none=>(have n1:=zBA;have HE:=zy (zAk none=.nilIface) rfl;have c5:=d6.o rfl;go_enter func61,ntmps61;go_upto_region 4 with(go_at_call 59;refine HF.o.mono ?_;rintro e w1 ⟨rfl,J⟩;rw[HE.o];have a0:=zz J;clear J);obtain⟨we,Z⟩:=zx w1.drew;have c6:Below w1 w1 we:=(by rw[Z];exact zA w1);have b4:=zz (a0.o.trans (c6.mono a0.o.size));have a7:=zz (HH.o.later b4.o);have d5:=a7.o.obs;obtain⟨a,b,c,K,S,rfl,ho⟩:=d5;have HO:=zz ho;have d1:=zz (zEv we a b c s.L K S ho u.o.l);obtain⟨ln,a6⟩:=zx s.L.length;have d2:=zz a6;rw[<-a6]at d1 c5;have e2:i<1000000:=(by have:=u.o.l;omega);obtain⟨κ,e1,wB,a9,a5⟩:=zK we;have e0:=zz (H0.o.1.later b4.o);have y0:∀n,(wB n).cell? b0=some (.pointer (zp (m.ar))):=fun n=>(e0.o.later (a9 n)).cell 0 zo;have y1:∀n,(wB n).cell? (m.ar,10)=some (.slice a ln c):=fun n=>(by rw[d2.o];exact((a7.o.later (a9 n)).a10));clear a6 ho;refine zI [([0,1,2,3,4,6,7,8],[5]),([],[9])] 10 (fun V=>∃n,V=wB n) zP zk zk (fun c a d v w h=>by cases d<;>exact h) (a5.o _ (by rw[<-Z];exact yh _ _)) ?_;rw[<-Z];clear Z c6 a9;simp only[zQ];simp only[pick,ym,yo,yAa,yi,yj];change wpQuiet _ _ _ _ (_::_::_::_::_::_::_::_::[]) _;(repeat(go_big_quiet_step (fail)));refine wpQuiet_nil ?_;clear y0 y1;simp only[zAN,zQ];refine zS (i:=5) rfl rfl ?_;go_wp2_with fail;refine d1.o.mono ?_;rintro e w2 ⟨v2,rfl,a1,b9⟩;have d4:=zz a1;have b5:=zz b9;have c9:=zz (zMr w2 we v2 s.L K S i a1 (by rw[<-d2.o];exact c5) u.o.l);obtain⟨a2,b2,c2,rfl,-⟩:=a1.1.shape;clear a1 b9;go_wp2_with fail;refine⟨a5.o _ b5.o,?_⟩;change wpQuiet _ _ _ _ [] _;refine wpQuiet_nil ?_;(try simp only[zAN,zQ]);refine zS (i:=9) rfl rfl ?_;have d3:((i+1:Nat):Int)=(i:Int)+1:=zo;rw[d3]at c9;go_wp2_with fail;refine c9.o.mono ?_;rintro e w3 ⟨v3,rfl,a8,b6⟩;have b7:=zy (Below we we w3) (Below.upd b5.o b6 (fun b e=>(d4.o.1.lt b e.symm).1) b5.o.size);obtain⟨l3,a4⟩:=zx (s.L.eraseIdx i);rw[<-a4]at a8;have d8:=zz a4;obtain⟨a3,b3,c3,rfl,c4⟩:=a8.obs;have c7:(zCE l3).length≤400000:=(by rw[a4];exact yC (zL8 _ _) u.o.cat);have d7:=zz (zL2 we w3 m s a7.o b7.o l3 a3 b3 c3 _ _ c4 c7 u.o.l u.o.sp u.o.bk u.o.m u.o.ok u.o.ok.seq);clear a8 b6 c4 a4 c7;have d0:=a5.o _ b7.o;go_wp2_with fail;refine⟨d0,?_⟩;simp only[yu,yz];clear d0 a5;go_wp2_with (go_at_call 62;refine d7.o.mono ?_;rintro e w4 ⟨rfl,d9⟩);go_ret;have hR:deleteR m.D m.L m.G s n=commitD m.D m.L m.G s l3:=(by rw[HR.o,d8.o]);rw[hR];exact⟨rfl,ArR.ahead b4.o d9⟩))
theorem zL9(D L G:Nat)(s:Ast)(l:List Ob):(commitD D L G s l).1≠some 13:=by
 rw[zCX];split<;>simp
theorem zMA(D L G:Nat)(s:Ast)(n:ByteArray):(deleteR D L G s n).1≠some 13:=by
 unfold deleteR;split;{rename_i e h;unfold zAf at h;split at h;{cases h;simp};{split at h;{cases h};{cases h;simp}}};{exact zL9 _ _ _ _ _}
theorem ArR.done{w O wq w2 w4:zw}{m:Loc}{s s':Ast}(HH:ArE w m s E ov lv)(u:Below w w O)(hq:Below O O wq)(hk:Kd wq O 42)(hr:ArR wq m E s' w2)(hu:Upd (· =O.heap.size) w2 w4):ArR w m E s' w4:=by
 have J:=HH.later u;have Z:=u.size;have V:=hk.upd hr.upd fun hx=>(by have:=J.qz hx;omega);obtain⟨E1,a0,a1,h1,h2,h3⟩:=hr;have a3:=J.dsk.tab.lt;refine⟨E1,a0,a1,h1.aside hu fun g hg _=>?_,fun c hc=>(h2 c hc).imp id fun h=>by have:=hq.size;omega,((((Upd.of_below (u.trans (hq.mono Z))).mono (H:=eX m E) (fun _ _ h=>h.elim)).trans h3 fun c hc _=>hc).trans hu fun c hc a2=>by have a4:=hc;omega)⟩;subst hg;exact⟨J.qg (yb _),zo,42,V,zd,zd,zd,zd,zd,zd⟩
theorem zUa(w:zw)(m:Loc)(s:Ast)(n:ByteArray)(H:ArE w m s E ov lv)(hg:zCt w)(a1:Bd s):
  Calls prog 39 #[m.ar,.string n] w fun e w'=>e=.returned (zAk (deleteR m.D m.L m.G s n).1)∧ArR w m E (deleteR m.D m.L m.G s n).2 w':=by
 have HH:=zz H;have HG:=zz hg;have a8:=zz a1;have a2:Below w w ((w.alloc (.cells #[m.ar] 95)).alloc (.cells #[.string n] 9)):=((yh w w).alloc (yb _) _).alloc zs _;have r0:=(Row.lit w #[m.ar] 95).alloc (.cells #[.string n] 9);have q0:=(Kd.new w #[m.ar] 95).alloc (.cells #[.string n] 9);have r1:=Row.lit (w.alloc (.cells #[m.ar] 95)) #[.string n] 9;have q1:=Kd.new (w.alloc (.cells #[m.ar] 95)) #[.string n] 9;rw[yw]at r1 q1;have a4:=zz (yr r0 q0);have a6:=zz (yr r1 q1);have u:=zz a2;have z0:=r0.cell 0 zs;simp only[yc]at z0;clear H a2 r0 r1 q0 q1 a1;go_enter func39,ntmps39;go_upto_region 1 with fail;generalize(w.alloc (.cells #[m.ar] 95)).alloc (.cells #[.string n] 9)=w1 at *;have b0:w1.cell? w=some (.pointer (zp (m.ar))):=z0;have J:=zz (HH.o.later u.o);have b1:=hg.lt;obtain⟨R,hR⟩:=zx (deleteR m.D m.L m.G s n);have V:=zMA m.D m.L m.G s n;rw[<-hR]at V;have a0:=zz hR;have a7:=zz (zFi w1 m.ar J.o.a12 (HG.o.later u.o) 61 #[] #[.pointer (zp (w.heap.size)),.pointer (zp (w.heap.size+1))] #[.pointer (zp (w.heap.size)),.pointer (zp (w.heap.size+1))] rfl (fun w=>by kernel_rfl)
  (eX m E) (fun w2=>∃Z,Below w1 w1 Z∧Kd Z w1 42∧ArR Z m E R.2 w2) R.1 V
  (fun b hb=>J.o.qz hb) J.o.jc
  (fun Z O _ hk=>(zTE Z m s n w (w.heap.size+1) (J.o.later O) a8.o ((a4.o.1.later O).congr fun i hi=>by match i,hi with | 0,_=>rfl) (a4.o.2.later O) ((a6.o.1.later O).congr fun i hi=>by match i,hi with | 0,_=>rfl)).mono fun e w2 h=>by
   rw[<-a0.o]at h;exact⟨h.1,h.2.upd,Z,O,hk,h.2⟩))
 have a9:=u.o.size;clear hR z0 V;go_wp2_with (go_at_call 51;refine a7.o.mono ?_;rintro e w4 ⟨rfl,-,w2,a5,a3⟩;have HW:=zz (yr a5 a3);clear a5 a3);go_ret;obtain⟨⟨Z,O,hk,hr⟩,hu⟩:=HW.o;rw[<-a0.o];exact⟨rfl,ArR.done HH.o u.o O hk hr hu⟩
def tryE(b q:Nat)(o:Option Nat)(s:Sst):Nat->Sst
 | 0=>s
 | k+1=>if o=some k then tryE b q o s k else tryP b q (tryE b q o s k) k
def zMR(o:Option Nat)(s:Sst):Sst:=match o with
 | none=>s
 | some d=>{s with tried:=s.tried|||2^d,lost:=s.lost|||2^d}
def hwTo(b q:Nat)(o:Option Nat)(sh:Nat->Option (Nat->UInt8))(A:Arr)(l:List Nat):Arr:=l.foldl (fun A i=>if o=none∨o=some i then A.qv i b (zGZ q i (bytesOf sh i))else A) A
def healS(N b q:Nat)(o:Option Nat)(A:Arr):Sst:=zMR o (tryE b q o (zEY A) N)
def healP(D L G b q:Nat)(o:Option Nat)(A:Arr):Option Nat × Arr:=
 if(repP D L G b q 17 (healS (D+L+G) b q o A)).2 then(none,hwTo b q o (repP D L G b q 17 (healS (D+L+G) b q o A)).1.sh (repP D L G b q 17 (healS (D+L+G) b q o A)).1.A (sel (D+L+G) (healS (D+L+G) b q o A).lost.testBit))
 else(some 3,(repP D L G b q 17 (healS (D+L+G) b q o A)).1.A)
theorem zKL{N b q:Nat}{s:Sst}(h:zB6 N s):∀k,k≤N->zB6 N (tryE b q o s k)
 | 0,_=>h
 | k+1,hk=>by
  unfold tryE
  split
  ·exact zKL h k zo
  ·exact(zKL h k zo).try b q k zo
theorem zFz{k d:Nat}(h:k≠d):(2^k).testBit d=false:=by
 rw[yAH];simp[h]
theorem zN6{b q d:Nat}{s:Sst}(O:s.tried.testBit d=false)(V:s.sh d=none):∀k,(tryE b q (some d) s k).tried.testBit d=false∧(tryE b q (some d) s k).sh d=none
 | 0=>⟨O,V⟩
 | k+1=>by
  have J:=zN6 (b:=b) (q:=q) O V k;unfold tryE
  split
  ·exact J
  ·rename_i hne
   have u:k≠d:=fun e=>hne (by rw[e]);unfold tryP
   split
   ·exact J
   ·refine⟨?_,?_⟩
    ·show((tryE b q (some d) s k).tried|||2^k).testBit d=false;rw[yAI,J.1,zFz u];rfl
    ·show(if d=k then _ else(tryE b q (some d) s k).sh d)=none;rw[yl (fun e=>u e.symm)];exact J.2
theorem zP7{N b q:Nat}{A:Arr}(Z:∀d,o=some d->d<N):zB6 N (healS N b q o A):=by
 have h:=zKL (b:=b) (q:=q) (o:=o) (zB6.start N A) N (yb _);unfold healS zMR;(cases o with |none=>(exact h)|some d=>(have V:=Z d rfl;have O:=zN6 (b:=b) (q:=q) (d:=d) (s:=zEY A) (by simp[zEY]) rfl N;refine⟨yBJ h.lt (yAx zo V),fun i J=>?_,fun i J=>?_⟩;{show((tryE b q (some d) (zEY A) N).tried|||2^d).testBit i=true;have u:((tryE b q (some d) (zEY A) N).lost|||2^d).testBit i=true:=J;rw[yAI,Bool.or_eq_true]at u;rw[yAI];rcases u with h1 | h1;{rw[h.sub i h1];rfl};{rw[h1];simp}};{show((tryE b q (some d) (zEY A) N).lost|||2^d).testBit i=((tryE b q (some d) (zEY A) N).sh i).isNone;have u:((tryE b q (some d) (zEY A) N).tried|||2^d).testBit i=true:=J;by_cases e:d=i;{subst e;rw[O.2,yAI,yAH];simp};{rw[yAI,zFz e,Bool.or_false]at u ⊢;exact h.is i u}}))
theorem zTW(b q:Nat)(o:Option Nat)(sh:Nat->Option (Nat->UInt8)):∀(l:List Nat) (A:Arr),(hwTo b q o sh A l).n=A.n∧(hwTo b q o sh A l).wait=A.wait
 | [],_=>⟨rfl,rfl⟩
 | i::l,A=>by
  have h:=zTW b q o sh l (if o=none∨o=some i then A.qv i b (zGZ q i (bytesOf sh i))else A);have e:(if o=none∨o=some i then A.qv i b (zGZ q i (bytesOf sh i))else A).n=A.n∧(if o=none∨o=some i then A.qv i b (zGZ q i (bytesOf sh i))else A).wait=A.wait:=by
   split
   ·exact zHW _ _ _ _
   ·exact⟨rfl,rfl⟩
  exact⟨h.1.trans e.1,h.2.trans e.2⟩
theorem zF0(b q:Nat)(o:Option Nat)(sh:Nat->Option (Nat->UInt8))(A:Arr)(l:List Nat)(i:Nat):hwTo b q o sh A (l++[i])=if o=none∨o=some i then(hwTo b q o sh A l).qv i b (zGZ q i (bytesOf sh i))else hwTo b q o sh A l:=by
 unfold hwTo;rw[yBs];rfl
theorem zUv(A:Arr)(d b:Nat)(x:Nat->UInt8):(A.wr d b x).2.m=A.m:=by
 unfold Arr.wr;split<;>rfl
theorem zRC(b q:Nat)(o:Option Nat)(sh:Nat->Option (Nat->UInt8)):∀(l:List Nat) (A:Arr),(hwTo b q o sh A l).m=A.m
 | [],_=>rfl
 | i::l,A=>by
  have h:=zRC b q o sh l (if o=none∨o=some i then A.qv i b (zGZ q i (bytesOf sh i))else A);refine h.trans ?_
  split
  ·exact zUv _ _ _ _
  ·rfl
theorem zN7(A:Arr)(i:Nat)(x:Drv)(u:x.lost=(A.drv i).lost)(d b:Int):(A.set i x).err d b=A.err d b:=by
 unfold Arr.err Arr.set;dsimp only;have e:((if d.toNat=i then x else A.drv d.toNat)).lost=(A.drv d.toNat).lost:=(by split;{rename_i h;rw[u,h]};{rfl});rw[e]
theorem zRz(A:Arr)(i:Nat)(d b:Int):(A.jg i).err d b=A.err d b:=zN7 A i {A.drv i with reads:=wrap64 ((A.drv i).reads+1)} rfl d b
theorem zTX(A:Arr)(i c:Nat)(d b:Int):(A.rd i c).2.2.err d b=A.err d b:=by
 unfold Arr.rd;split;{rfl};{split<;>exact zRz _ _ _ _}
theorem zR0(A:Arr)(i c:Nat)(d b:Int):(A.qj i c).2.2.err d b=A.err d b:=by
 unfold Arr.qj;split<;>exact zTX _ _ _ _ _
theorem zLO(b q:Nat)(s:Sst)(i:Nat)(d c:Int):(tryP b q s i).A.err d c=s.A.err d c:=by
 unfold tryP;split;{rfl};{exact zR0 _ _ _ _ _}
theorem zHB{b q:Nat}{d c:Int}:∀(l:List Nat) (t:Sst × Bool),(loadsP b q t l).1.A.err d c=t.1.A.err d c
 | [],_=>rfl
 | i::l,t=>(zHB (b:=b) (q:=q) l (tryP b q t.1 i,t.2&&((tryP b q t.1 i).sh i).isSome)).trans (zLO b q t.1 i d c)
theorem zFL{D L G b q:Nat}{d c:Int}:∀(f:Nat) (s:Sst),(repP D L G b q f s).1.A.err d c=s.A.err d c
 | 0,_=>rfl
 | f+1,s=>by
  unfold repP
  split
  ·rfl
  ·split
   ·rfl
   ·have u:=zHB (b:=b) (q:=q) (d:=d) (c:=c) (zAV D L (D+L+G) s.lost) (s,true)
    split
    ·exact u
    ·exact(zFL (D:=D) (L:=L) (G:=G) (b:=b) (q:=q) f (loadsP b q (s,true) (zAV D L (D+L+G) s.lost)).1).trans u
theorem zHz(b q:Nat)(o:Option Nat)(s:Sst)(d c:Int):∀k,(tryE b q o s k).A.err d c=s.A.err d c
 | 0=>rfl
 | k+1=>by
  unfold tryE
  split
  ·exact zHz b q o s d c k
  ·exact(zLO _ _ _ _ _ _).trans (zHz b q o s d c k)
theorem zF1(N b q:Nat)(o:Option Nat)(A:Arr)(d c:Int):(healS N b q o A).A.err d c=A.err d c:=by
 have h:=zHz b q o (zEY A) d c N;unfold healS zMR;(cases o with |none=>(exact h)|some e=>(exact h))
theorem zRD(A:Arr)(i c:Nat)(x:Nat->UInt8)(d b:Int):(A.wr i c x).2.err d b=A.err d b:=by
 unfold Arr.wr;split;{rfl};{exact zN7 A i {A.drv i with blk:=fun e=>if e=c then x else(A.drv i).blk e,bad:=fun e=>if e=c then false else(A.drv i).bad e} rfl d b}
theorem zH0(b q:Nat)(o:Option Nat)(sh:Nat->Option (Nat->UInt8))(d c:Int):∀(l:List Nat) (A:Arr),(hwTo b q o sh A l).err d c=A.err d c
 | [],_=>rfl
 | i::l,A=>by
  have h:=zH0 b q o sh d c l (if o=none∨o=some i then A.qv i b (zGZ q i (bytesOf sh i))else A);refine h.trans ?_
  split
  ·exact zRD _ _ _ _ _ _
  ·rfl
end Go.Proofs.YtonfdlhikinldaaGreatDoor
