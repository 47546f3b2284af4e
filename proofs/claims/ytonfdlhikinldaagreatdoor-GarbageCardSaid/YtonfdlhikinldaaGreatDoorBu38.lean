import Derived.Test.YtonfdlhikinldaaGreatDoorBu35
import Derived.Test.YtonfdlhikinldaaGreatDoorBu37
import Derived.Test.YtonfdlhikinldaaGreatDoorBu16
import Derived.RangeFuncWrites
set_option maxRecDepth 100000
set_option linter.all false
set_option linter.unusedVariables false
set_option maxHeartbeats 16000000
namespace Go.Proofs.YtonfdlhikinldaaGreatDoor
open Go Go.RowKit Go.Proofs Lin Go.Proofs.Tryz
variable {w w':zw}{v:Value}{X:Nat->Prop}{u:List (Nat × Nat)}{E E':List Nat}{c:Nat}
structure Loc where
 base:Nat
 ar:Nat
 cb:Nat
 kb:Nat
 mb:Nat
 most:Nat
 l:zAK
 D:Nat
 L:Nat
 G:Nat
 cv:Value
 β:Nat->Nat
structure Ast where
 A:Arr
 h:Hd
 L:List Ob
 sp:List (Nat × Nat)
def zJw(w:zw)(v:Value)(L:List Ob):Prop:=∃a b c K S,v=.slice a L.length c∧zBN w a b c L K S
def spF(u:List (Nat × Nat))(i j:Nat):Value:=if j=0 then I (u.getD i (0,0)).1 else U64 (u.getD i (0,0)).2
structure zFR (w:zw) (a:Option Addr) (b c:Nat) (u:List (Nat × Nat)):Prop where
 els:Els w a b 0 2 u.length c (spF u)
 kd:0<u.length->Kd w b 120
 ok:∀p∈u,p.1<2^32∧p.2<2^64
def zGT(w:zw)(v:Value)(u:List (Nat × Nat)):Prop:=∃a b c,v=.slice a u.length c∧zFR w a b c u
theorem zFR.upd{a:Option Addr}{b c:Nat}{V:List (Nat × Nat)}(h:zFR w a b c V)(O:Upd X w w')(Z:∀b,X b->¬Kd w b 120):zFR w' a b c V:=
 ⟨h.els.upd O fun J u=>Z _ u (h.kd zo),fun J=>(h.kd J).upd O fun u=>Z _ u (h.kd J),h.ok⟩
theorem zJw.upd{L:List Ob}(h:zJw w v L)(u:Upd X w w')(J:∀b,X b->¬Kd w b 3∧¬Kd w b 160):zJw w' v L:=by
 obtain⟨a,b,c,K,S,e,h⟩:=h;exact⟨a,b,c,K,S,e,h.upd u J⟩
theorem zGT.upd(h:zGT w v u)(J:Upd X w w')(O:∀b,X b->¬Kd w b 120):zGT w' v u:=by
 obtain⟨a,b,c,e,h⟩:=h;exact⟨a,b,c,e,h.upd J O⟩
theorem zJw.later{L:List Ob}(h:zJw w v L)(u:Below w w w'):zJw w' v L:=h.upd (Upd.of_below u) fun _ h=>h.elim
theorem zGT.later(h:zGT w v u)(J:Below w w w'):zGT w' v u:=h.upd (Upd.of_below J) fun _ h=>h.elim
structure Lo (m:Loc) (E:List Nat):Prop where
 ar:m.base≤m.ar
 own:∀c,m.l.own (m.D+m.L+m.G) c->m.base≤c
 k:∀c,zDg m.kb m.mb E c->m.base≤c
 err:0<m.base
theorem Lo.more{m:Loc}{n:Nat}(h:Lo m E)(u:∀c∈E',c∈E∨n≤c)(J:m.base≤n):Lo m E':=
 ⟨h.ar,h.own,fun c hc=>by
  rcases hc with hc | hc | hc
  ·exact h.k c (.inl hc)
  ·exact h.k c (.inr (.inl hc))
  ·rcases u c hc with hc | hc
   ·exact h.k c (.inr (.inr hc))
   ·omega,h.err⟩
abbrev zFS(w:zw)(m:Loc)(A:Arr)(h:Hd)(u J:Value)(E:List Nat):Prop:=zBE w m.ar m.cb m.kb m.mb m.most m.l A m.D m.L m.G m.cv m.β h u J .nilIface E
structure ArE (w:zw) (m:Loc) (s:Ast) (E:List Nat) (u J:Value):Prop where
 dsk:zFS w m s.A s.h u J E
 lo:Lo m E
 obs:zJw w u s.L
 sps:zGT w J s.sp
def eX(m:Loc)(E:List Nat)(c:Nat):Prop:=m.l.own (m.D+m.L+m.G) c∨c=m.ar∨zDg m.kb m.mb E c
def ArR(w:zw)(m:Loc)(E:List Nat)(s:Ast)(w':zw):Prop:=∃E' u J,ArE w' m s E' u J∧(∀c∈E',c∈E∨w.heap.size≤c)∧Upd (eX m E) w w'
theorem zDe{m:Loc}{n c:Nat}(h:∀c∈E',c∈E∨n≤c)(hc:eX m E' c)(u:c<n):eX m E c:=by
 rcases hc with hc | hc | hc | hc | hc;{exact .inl hc};{exact .inr (.inl hc)};{exact .inr (.inr (.inl hc))};{exact .inr (.inr (.inr (.inl hc)))};{rcases h c hc with h | h;{exact .inr (.inr (.inr (.inr h)))};{omega}}
section
variable {w w' w2:zw} {m:Loc} {s s2:Ast} {E:List Nat} {ov lv:Value}
theorem ArE.qo(H:ArE w m s E ov lv){c t:Nat}(hc:eX m E c)(O:Kd w c t):
  t=126∨t=87∨t=91∨t=40∨t=4∨t=173∨t=171:=by
 have u:=fun Z h'=>(by rcases Nat.decEq t Z with hne | he;{exact absurd rfl (O.ne h' hne)};{exact he});rcases hc with hc | rfl | hc;{rcases H.dsk.arc.arr.kind (by rw[H.dsk.arc.n];exact hc) O with e | e | e | e;{exact .inr (.inl e)};{exact .inr (.inr (.inl e))};{exact .inr (.inr (.inr (.inl e)))};{exact .inr (.inr (.inr (.inr (.inl e))))}};{exact .inl (u _ H.dsk.arc.kd)};{obtain⟨Q,V,h3⟩:=H.dsk.ring;rcases hc with rfl | rfl | hc;{exact .inr (.inr (.inr (.inr (.inr (.inl (u _ V.kd))))))};{exact absurd O h3.qd};{obtain⟨Z,J,h4⟩:=V.qb (b:=c) (.inr hc);rcases h4 with rfl | rfl;{exact .inr (.inr (.inr (.inr (.inr (.inl (u _ J))))))};{exact .inr (.inr (.inr (.inr (.inr (.inr (u _ J))))))}}}
theorem ArE.qc(H:ArE w m s E ov lv){t:Nat}(h:t≠126∧t≠87∧t≠91∧t≠40∧t≠4∧t≠173∧t≠171):∀c,eX m E c->¬Kd w c t:=fun c hc u=>by
 rcases H.qo hc u with e | e | e | e | e | e | e
 ·exact h.1 e
 ·exact h.2.1 e
 ·exact h.2.2.1 e
 ·exact h.2.2.2.1 e
 ·exact h.2.2.2.2.1 e
 ·exact h.2.2.2.2.2.1 e
 ·exact h.2.2.2.2.2.2 e
theorem ArE.later(H:ArE w m s E ov lv)(u:Below w w w'):ArE w' m s E ov lv:=⟨H.dsk.later u,H.lo,H.obs.later u,H.sps.later u⟩
theorem ArE.qz(H:ArE w m s E ov lv)(hc:eX m E c):c<w.heap.size:=by
 rcases hc with hc | rfl | hc;{exact H.dsk.arc.qf (.inr (.inl hc))};{exact H.dsk.arc.kd.lt};{exact H.dsk.jr hc}
theorem ArE.jm(H:ArE w m s E ov lv)(hc:eX m E c):m.base≤c:=by
 rcases hc with hc | rfl | hc;{exact H.lo.own c hc};{exact H.lo.ar};{exact H.lo.k c hc}
theorem ArE.qk(H:ArE w m s E ov lv):m.base≤w.heap.size:=by have:=H.lo.ar;have:=H.dsk.arc.kd.lt;omega
theorem ArE.jc(H:ArE w m s E ov lv):¬eX m E 0:=fun hc=>by have:=H.jm hc;have:=H.lo.err;omega
theorem ArE.rest(H:ArE w m s E ov lv)(J:Upd (eX m E) w w'):zJw w' ov s.L∧zGT w' lv s.sp:=
 ⟨H.obs.upd J fun b u=>⟨H.qc zd b u,H.qc zd b u⟩,H.sps.upd J (H.qc zd)⟩
theorem ArE.refl(H:ArE w m s E ov lv):ArR w m E s w:=⟨E,ov,lv,H,fun c hc=>.inl hc,Upd.refl _ _⟩
theorem ArR.upd(h:ArR w m E s w'):Upd (eX m E) w w':=by
 obtain⟨_,_,_,_,_,h⟩:=h;exact h
theorem ArR.trans(h:ArR w m E s w')(k:∀E' ov lv,ArE w' m s E' ov lv->ArR w' m E' s2 w2):ArR w m E s2 w2:=by
 obtain⟨E1,V,Z,h1,h2,h3⟩:=h;obtain⟨E2,O,J,k1,k2,k3⟩:=k E1 V Z h1;refine⟨E2,O,J,k1,fun c hc=>?_,h3.trans k3 fun c hc u=>zDe h2 hc u⟩;rcases k2 c hc with hc | hc;{exact h2 c hc};{exact .inr (yC h3.size hc)}
theorem ArR.qx(h:ArR w m E s w')(O:Below w' w' w2):ArR w m E s w2:=by
 obtain⟨E1,u,J,Z,V,h3⟩:=h;exact⟨E1,u,J,Z.later O,V,h3.trans (Upd.of_below O) fun _ h _=>h.elim⟩
theorem ArR.ahead(O:Below w w w')(k:ArR w' m E s w2):ArR w m E s w2:=by
 obtain⟨E1,u,J,Z,V,h3⟩:=k;exact⟨E1,u,J,Z,fun c hc=>(V c hc).imp id fun h=>yC O.size h,((Upd.of_below O).mono (fun _ _ h=>h.elim)).trans h3 fun c hc _=>hc⟩
theorem ArE.qs{A:Arr}{E':List Nat}(H:ArE w m s E ov lv)(O:zFS w' m A s.h ov lv E')(J:∀c∈E',c∈E∨w.heap.size≤c)(u:Upd (eX m E) w w'):ArR w m E {s with A:=A} w':=
 ⟨E',ov,lv,⟨O,H.lo.more J H.qk,(H.rest u).1,(H.rest u).2⟩,J,u⟩
theorem zQ1{m:Loc}{E:List Nat}{N:Nat}(J:N=m.D+m.L+m.G)(u:0<N)(hc:zUK m.l m.kb m.mb E c):eX m E c:=by
 rcases hc with rfl | hc;{exact .inl (.inr (.inl ⟨rfl,zo⟩))};{exact .inr (.inr hc)}
def zUz(w:zw)(m:Loc)(E:List Nat)(s:Ast)(b q:Nat)(e:Ending)(w':zw):Prop:=
 ArR w m E {s with A:=(getP m.D m.L m.G b q s.A).2} w'∧
 ((∃x v,(getP m.D m.L m.G b q s.A).1=some x∧e=.returned (.tuple #[v,.nilIface])∧Vc w' w 5 v (m.D*44) (bs x))∨(getP m.D m.L m.G b q s.A).1=none∧e=.returned (.tuple #[.slice none 0 0,.iface 54 (I 3)]))
theorem zSw(w:zw)(m:Loc)(s:Ast)(b q:Nat)(H:ArE w m s E ov lv)(u:q<2^64):Calls prog 60 #[m.ar,.agg #[I b,U64 q]] w (zUz w m E s b q):=by
 refine(zNy w m.ar m.cb m.kb m.mb m.most m.l s.A m.D m.L m.G m.cv m.β s.h ov lv .nilIface b q E H.dsk u).mono ?_;rintro e w' ⟨E',V,O,J,Z⟩;have h1:=H.dsk.arc.right.d1;exact⟨H.qs V O (J.mono fun c _ hc=>zQ1 rfl zo hc),Z⟩
theorem zSx(w:zw)(m:Loc)(s:Ast)(b q:Nat)(H:ArE w m s E ov lv)(hq:q<2^64)(Z:Option Addr)(V u n dc:Nat)(x:Nat->UInt8)(J:0<n->Z=some ⟨V,u,none⟩)(O:Rd w V u n (bs x))(hn:n≤m.D*44):
  Calls prog 93 #[m.ar,.agg #[I b,U64 q],.slice Z n dc] w fun e w'=>e=.returned (.tuple #[])∧ArR w m E {s with A:=putP m.D m.L (m.D+m.L+m.G) b q n x s.A} w':=by
 refine(zOh w m.ar m.cb m.kb m.mb m.most m.l s.A m.D m.L m.G m.cv m.β s.h ov lv .nilIface b q E H.dsk hq Z V u n dc x J O hn).mono ?_;rintro e w' ⟨rfl,O,hu⟩;exact⟨rfl,H.qs O (fun c hc=>.inl hc) (hu.mono fun c _ hc=>.inl hc)⟩
end
end Go.Proofs.YtonfdlhikinldaaGreatDoor
namespace Go.Proofs.YtonfdlhikinldaaGreatDoor
open Go Go.RowKit Go.Proofs Lin Go.Shelf Go.Proofs.Tryz
attribute [local go_sem] Oper.semAt_some
def oS(o:Ob):List (Nat × Nat):=o.blk.map fun b=>(b,o.seq)
def zBu(L:List Ob)(u:List (Nat × Nat)):List (Nat × Nat):=u++L.flatMap oS
theorem zSv(o:Ob):(oS o).length=o.blk.length:=yH ..
theorem zRV(o:Ob)(j:Nat)(h:j<o.blk.length):(oS o).take (j+1)=(oS o).take j++[(o.blk.getD j 0,o.seq)]:=by
 unfold oS;rw[<-List.map_take,<-List.map_take];have e:o.blk.take (j+1)=o.blk.take j++[o.blk.getD j 0]:=(by rw[yg,yx h];simp);rw[e,yP];rfl
structure zC4 (bx u:Nat) (J:Option Addr) (ob Z:Nat) (L:List Ob) (K:Nat->UInt8) (S:Nat->Il) (V:Option Addr) (sb sc:Nat) (O:List (Nat × Nat)) (W:zw):Prop where
 box:W.cell? bx=some (.pointer (zp u))
 a10:W.cell? (u,10)=some (.slice J L.length Z)
 a11:W.cell? (u,11)=some (.slice V O.length sc)
 obs:zBN W J ob Z L K S
 sps:zFR W V sb sc O
theorem zC4.later{O J:Nat}{V:Option Addr}{ob oc:Nat}{L:List Ob}{K:Nat->UInt8}{S:Nat->Il}{sa:Option Addr}{sb sc:Nat}{Z:List (Nat × Nat)}{W W':zw}(h:zC4 O J V ob oc L K S sa sb sc Z W)(u:Below W W W'):zC4 O J V ob oc L K S sa sb sc Z W':=
 ⟨(u.cell (p:=O) (yt _ _ h.box)).trans h.box,(u.cell (p:=⟨J,10,none⟩) (yt _ _ h.a10)).trans h.a10,(u.cell (p:=⟨J,11,none⟩) (yt _ _ h.a11)).trans h.a11,h.obs.later u,h.sps.upd (Upd.of_below u) fun _ h=>h.elim⟩
theorem zRW(F:Fence)(n:Nat)(hF:F.fn 80)(g3:F.round=none)(hn:1≤n)(e8 bx ar:Nat)(oa:Option Addr)(ob oc:Nat)(L:List Ob)(K:Nat->UInt8)(S:Nat->Il)(sa:Option Addr)(sb sc:Nat)(u:List (Nat × Nat))(hL:L.length≤1000000)(h6:u.length≤1000001)
  (Kp:World->World->Prop)(e5:∀X Y,Kp X Y->zC4 bx ar oa ob oc L K S sa sb sc u X->zC4 bx ar oa ob oc L K S sa sb sc u Y)(e3:∀X Y g,Kp X Y->Kd X g 160->Y.heap[g]? =X.heap[g]?)(J Jx:List (Nat × Nat)->World->Prop)(f4:∀a2 W o,J a2 W->J a2 (W.alloc o))
  (hY:∀a2 p W,p∈zBu L u->J a2 W->a2.length<(zBu L u).length->YieldAt F (n - 1) prog e8 #[.agg #[I p.1,U64 p.2]] W fun e W'=>
   (e=.returned (.bool true)∧J (a2++[p]) W'∧Kp W W')∨(e=.returned (.bool false)∧Jx (a2++[p]) W'))
  (W:zw)(a8:zC4 bx ar oa ob oc L K S sa sb sc u W)(h0:J [] W):
  CallsIn F n prog 80 #[.func (.yield e8) #[] #[],bx] W fun e W'=>(∃v,e=.returned v)∧
   ((∃ys,ys=zBu L u∧J ys W')∨(∃a2,a2<+:zBu L u∧Jx a2 W')):=by
 have x0:=a8.box;have x1:=a8.a11;have g6:=zz a8;have d8:=a8.sps.els.cap;have h7:=a8.sps.els.max;obtain⟨n1,d6⟩:=zx u.length;have d9:=zz d6;obtain⟨n2,d7⟩:=zx L.length;have b7:=zz d7;rw[<-d6]at x1 d8 h6;rw[<-d7]at hL;have f6:=zz f4;have f8:=zz e5;have g8:=zz e3;have f0:=zz hY;clear d6 d7 a8 f4 e5 e3 hY;refine callsIn_of_wp func80 rfl hF ?_ g3;simp only[ntmps80,yX,yF,yK,Nat.reduceAdd,Nat.reduceSub,yO,yN,yAd,yT,yAe,yAb];gi_wp2
 gi_loopw [14] (fun p wr=>∃k:Nat,k≤n1∧p=I k∧J (u.take k) wr∧zC4 bx ar oa ob oc L K S sa sb sc u wr)
  (fun p _=>n1 - (intOf p).toNat)
 (case atStart=>exact⟨0,zo,rfl,h0,g6.o⟩)
 case round=>
  obtain⟨k,hk,rfl,hJ,O⟩:=hrel;have c3:=zz O;have HJ:=zz hJ;by_cases g5:k<n1;{have b1:=O.sps.els.addr (by rw[<-d9.o];omega);have b6:k<u.length:=(by rw[<-d9.o];exact g5);have a0:=fun t (ht:t<2)=>O.sps.els.at b6 ht;have y0:wr.cell? (sb,k*2)=some (I (u.getD k (0,0)).1):=(by have:=a0 0 zo;rwa[yc,yAk]at this);have y1:wr.cell? (sb,k*2+1)=some (U64 (u.getD k (0,0)).2):=(by have:=a0 1 zo;rwa[yc]at this);obtain⟨px,a3⟩:=zx (u.getD k (0,0));have b0:=zy (u.take (k+1)=u.take k++[px]) (by rw[a3,yg,yx b6];simp);have a9:=zy (px∈zBu L u) (by rw[a3,yg,yx b6];exact yBH _ (yAo b6));simp only[<-a3]at y0 y1;clear a0 a3 O hJ;obtain⟨p1,p2⟩:=px;dsimp only at *;have b2:Below wr wr (wr.alloc (.cells #[.int .i64 (p1:Int),.int .u64 (p2:Int)] 120)):=(yh _ wr).alloc (yb _) _;have a6:=Row.lit wr #[.int .i64 (p1:Int),.int .u64 (p2:Int)] 120;have v0:(wr.alloc (.cells #[.int .i64 (p1:Int),.int .u64 (p2:Int)] 120)).cell? wr=some (.int .i64 (p1:Int)):=a6.cell 0 zs;have v1:(wr.alloc (.cells #[.int .i64 (p1:Int),.int .u64 (p2:Int)] 120)).cell? (wr,1)=some (.int .u64 (p2:Int)):=a6.cell 1 zs;have a4:(u.take k).length<(zBu L u).length:=(by unfold zBu;rw[yR,yB];omega);obtain⟨fn,tmps,b5,f7,hy,hR⟩:=f0.o (u.take k) (p1,p2) _ a9.o (f6.o _ _ (.cells #[.int .i64 (p1:Int),.int .u64 (p2:Int)] 120) HJ.o) a4;have b4:=zz (c3.o.later b2);rw[b1];clear a6 b2 a4;gi_wp2;refine hR.mono ?_;rintro e W3 (⟨rfl,g7,g0⟩ | ⟨rfl,e7⟩);{have a5:=f8.o _ _ g0 b4.o;gi_wp2;rw[<-b1];go_roundw;(case rel=>exact⟨k+1,zo,by go_num,by rw[b0.o];exact g7,a5⟩);(case measure=>simp[intOf];omega)};{gi_wp2;refine yAg (yBA rfl _ _ _) rfl ?_;refine⟨⟨_,rfl⟩,.inr ⟨u.take k++[(p1,p2)],?_,e7⟩⟩;rw[<-b0.o];unfold zBu;exact(List.take_prefix _ _).trans (List.prefix_append _ _)}}
  ·obtain rfl:n1=k:=zo;have y0:=O.box;have y1:=O.a10;have d5:=O.obs.els.cap;have g1:=O.obs.els.max;have g2:=zy (J u wr) (by have h:=HJ.o;rw[d9.o,yAD]at h;exact h);rw[<-b7.o]at y1 d5;clear O hJ HJ;gi_wp2
   gi_loopw [28] (fun p wr=>∃i:Nat,i≤n2∧p=I i∧J (u++(L.take i).flatMap oS) wr∧zC4 bx ar oa ob oc L K S sa sb sc u wr)
    (fun p _=>n2 - (intOf p).toNat)
   (case atStart=>exact⟨0,zo,rfl,by simpa using g2.o,c3.o⟩)
   case round=>
    obtain⟨i,hi,rfl,hJ,Z⟩:=hrel;obtain⟨wi,rfl⟩:=zx wr;have f9:=zz Z;have HJ:=zz hJ;by_cases f5:i<n2
    ·have e9:=Z.obs.els.addr (by rw[<-b7.o];omega);have a1:i<L.length:=(by rw[<-b7.o];exact f5);have a0:=fun t (ht:t<5)=>Z.obs.els.at a1 ht;obtain⟨o,a7⟩:=zx (L.getD i Obd);have c0:o∈L:=(by rw[a7,yg,yx a1];exact yAo a1);have i0:=zz (Z.obs.ok o c0);have b3:=(Z.obs.blk i a1).cap;have g4:=(Z.obs.blk i a1).max;rw[<-a7]at b3;have h4:=zy (∀V,zC4 bx ar oa ob oc L K S sa sb sc u V->zFA V (S i) o.blk) (fun V h=>by have h:=h.obs.blk i a1;rw[a7];exact h);have b0:=zy (L.take (i+1)=L.take i++[o]) (by rw[a7,yg,yx a1];simp)
     have a9:=zy (∀x∈o.blk,(x,o.seq)∈zBu L u) (fun x hx=>List.mem_append_right _ (List.mem_flatMap.2 ⟨o,c0,List.mem_map.2 ⟨x,hx,rfl⟩⟩));have c1:=zy (∀j,u++(L.take i).flatMap oS++(oS o).take j<+:zBu L u) (fun j=>by
      unfold zBu;have e:L=L.take (i+1)++L.drop (i+1):=(yBB _ _).symm;rw[b0.o]at e
      conv=>rhs;rw[e]
      rw[yAL,yAL,yBd,List.flatMap_nil,yAQ,yAh,yAh];exact(List.prefix_append_right_inj _).2 ((List.prefix_append_right_inj _).2 ((List.take_prefix _ _).trans (List.prefix_append _ _))))
     rw[<-a7]at a0;have d0:wi.cell? (ob,i*5)=some (B (K i)):=(by have:=a0 0 zo;rwa[yc,yAk]at this);have d1:wi.cell? (ob,i*5+1)=some (.string o.name):=(by have:=a0 1 zo;rwa[yc]at this);have d2:wi.cell? (ob,i*5+2)=some (I o.size):=(by have:=a0 2 zo;rwa[yc]at this);have d3:wi.cell? (ob,i*5+3)=some (U64 o.seq):=(by have:=a0 3 zo;rwa[yc]at this);have d4:wi.cell? (ob,i*5+4)=some (.slice (S i).a o.blk.length (S i).c):=(by have:=a0 4 zo;rwa[yc]at this);have h3:=(Z.obs.ok o c0).blk;clear a0 a7 c0 Z hJ y0 y1 x0 x1;obtain⟨nm,sz,sq,bl⟩:=o;dsimp only at *;generalize(K i)=kj at *;generalize(S i)=sj at *;obtain⟨nb,c9⟩:=zx bl.length;have c7:=zz c9;rw[<-c9]at d4 b3 h3;clear c9;rw[e9];have b2:Below wi wi (wi.alloc (.cells #[.int .u8 (kj.toNat:Int),.string nm,.int .i64 (sz:Int),.int .u64 (sq:Int),.slice sj.a nb sj.c] 160)):=(yh _ wi).alloc (yb _) _;have a6:=Row.lit wi #[.int .u8 (kj.toNat:Int),.string nm,.int .i64 (sz:Int),.int .u64 (sq:Int),.slice sj.a nb sj.c] 160;have f3:=Kd.new wi #[.int .u8 (kj.toNat:Int),.string nm,.int .i64 (sz:Int),.int .u64 (sq:Int),.slice sj.a nb sj.c] 160;have h9:(wi.alloc (.cells #[.int .u8 (kj.toNat:Int),.string nm,.int .i64 (sz:Int),.int .u64 (sq:Int),.slice sj.a nb sj.c] 160)).cell? (wi,4)=some (.slice sj.a nb sj.c):=a6.cell 4 zs;have h8:(wi.alloc (.cells #[.int .u8 (kj.toNat:Int),.string nm,.int .i64 (sz:Int),.int .u64 (sq:Int),.slice sj.a nb sj.c] 160)).cell? (wi,3)=some (.int .u64 (sq:Int)):=a6.cell 3 zs;have b4:=zz (f9.o.later b2);have h2:=zz (f6.o _ _ (.cells #[.int .u8 (kj.toNat:Int),.string nm,.int .i64 (sz:Int),.int .u64 (sq:Int),.slice sj.a nb sj.c] 160) HJ.o);have h5:=zz (Deep.blk_alloc_new wi (.cells #[.int .u8 (kj.toNat:Int),.string nm,.int .i64 (sz:Int),.int .u64 (sq:Int),.slice sj.a nb sj.c] 160));clear a6 b2 f3;gi_wp2
     gi_loopw [35] (fun p wr=>∃j:Nat,j≤nb∧p=I j∧J (u++(L.take i).flatMap oS++(oS ⟨nm,sz,sq,bl⟩).take j) wr∧zC4 bx ar oa ob oc L K S sa sb sc u wr∧wr.heap[wi.heap.size]? =some (.cells #[.int .u8 (kj.toNat:Int),.string nm,.int .i64 (sz:Int),.int .u64 (sq:Int),.slice sj.a nb sj.c] 160 (0,0)))
      (fun p _=>nb - (intOf p).toNat)
     (case atStart=>exact⟨0,zo,rfl,by simpa using h2.o,b4.o,h5.o⟩);(case round=>obtain⟨j,hj,rfl,hJ,a5,c5⟩:=hrel;obtain⟨wj,rfl⟩:=zx wr;have e0:=zz c5;have e6:=zz hJ;have c4:=zz a5;by_cases e4:j<nb;{have a1:=h4.o wj a5;have b1:=a1.addr (by rw[<-c7.o];omega);have b9:j<bl.length:=(by rw[<-c7.o];exact e4);have z0:wj.cell? (sj.b,sj.o+j)=some (I (bl.getD j 0:Nat)):=a1.rd j b9;have z3:wj.cell? (wi,3)=some (.int .u64 (sq:Int)):=yBl wj _ 3 _ _ (0,0) c5;obtain⟨px,a3⟩:=zx (bl.getD j 0);have e1:px∈bl:=(by rw[a3,yg,yx b9];exact yAo b9);have c6:=zy ((oS ⟨nm,sz,sq,bl⟩).take (j+1)=(oS ⟨nm,sz,sq,bl⟩).take j++[(px,sq)]) (by rw[a3];exact zRV ⟨nm,sz,sq,bl⟩ j b9);rw[<-a3]at z0;have a4:(u++(L.take i).flatMap oS++(oS ⟨nm,sz,sq,bl⟩).take j).length<(zBu L u).length:=(by have h:=(c1.o (j+1)).length_le;rw[c6.o,<-yAh,yB,yZ]at h;omega);obtain⟨fn,tmps,b5,f7,hy,hR⟩:=f0.o _ (px,sq) wj (a9.o px e1) e6.o a4;rw[b1];clear a1 a5 hJ c5 a4 a3 e1;gi_wp2;refine hR.mono ?_;rintro e W3 (⟨rfl,h1,f1⟩ | ⟨rfl,f2⟩);{have e2:=f8.o _ _ f1 c4.o;have g9:=(g8.o _ _ _ f1 ⟨_,e0.o⟩).trans e0.o;gi_wp2;rw[<-b1];go_roundw;(case rel=>exact⟨j+1,zo,by go_num,by rw[c6.o,<-yAh];exact h1,e2,g9⟩);(case measure=>simp[intOf];omega)};{gi_wp2;refine yAg (yBA rfl _ _ _) rfl ?_;refine⟨⟨_,rfl⟩,.inr ⟨_,?_,f2⟩⟩;have h:=c1.o (j+1);rw[c6.o,<-yAh]at h;exact h}};{obtain rfl:nb=j:=zo;gi_wp2;rw[<-e9];go_roundw;(case rel=>refine⟨i+1,zo,by go_num,?_,c4.o⟩;have h:=e6.o;have e:(oS ⟨nm,sz,sq,bl⟩).take nb=oS ⟨nm,sz,sq,bl⟩:=List.take_of_length_le (by rw[zSv];show bl.length≤nb;rw[c7.o];exact yb _);rw[e]at h;rw[b0.o,yAL,yBd,List.flatMap_nil,yAQ,<-yAh];exact h);(case measure=>simp[intOf];omega)})
    {obtain rfl:n2=i:=zo;gi_wp2;go_end0;refine⟨⟨_,rfl⟩,.inl ⟨_,rfl,?_⟩⟩;have h:=HJ.o;rw[b7.o,yAD]at h;exact h}
theorem zGq(F:Fence)(n:Nat)(hF:F.fn 80)(a6:F.round=none)(hn:1≤n)(bx ar:Nat)(oa:Option Addr)(ob oc:Nat)(L:List Ob)(K:Nat->UInt8)(S:Nat->Il)(sa:Option Addr)(sb sc:Nat)(V:List (Nat × Nat))(hL:L.length≤1000000)(b1:V.length≤1000001)
  (Kp:World->World->Prop)(a3:∀X Y,Kp X Y->zC4 bx ar oa ob oc L K S sa sb sc V X->zC4 bx ar oa ob oc L K S sa sb sc V Y)(a9:∀X Y g,Kp X Y->Kd X g 160->Y.heap[g]? =X.heap[g]?)(w:zw)(a8:zC4 bx ar oa ob oc L K S sa sb sc V w):
  SeqStopsK F n prog 80 #[bx] (fun p:{p:Nat × Nat // p∈zBu L V}=>#[.agg #[I p.1.1,U64 p.1.2]]) Kp (fun ys=>ys.map (·.1)=zBu L V) (fun Z=>Z.map (·.1)<+:zBu L V) (zBu L V).length w:=fun b0 J Jx W hW a7 _ hY h0=>by
 refine(zRW F n hF a6 hn b0 bx ar oa ob oc L K S sa sb sc V hL b1 Kp a3 a9 (fun l W=>∃u,u.map (·.1)=l∧J u W) (fun l W=>∃u,u.map (·.1)=l∧Jx u W) (fun Z W o h=>?_) ?_ W (a8.later hW) ⟨[],rfl,h0⟩).mono ?_
 ·obtain⟨u,h1,h2⟩:=h;exact⟨u,h1,a7 u W _ none h2 (World.grownBy_alloc W o none) (fun r e=>by cases e)⟩
 ·rintro Z p W' hp ⟨u,rfl,hJ⟩ a0;obtain⟨fn,tmps,O,a1,hy,hR⟩:=hY u ⟨p,hp⟩ W' hJ (by simpa using a0);refine⟨fn,tmps,O,a1,hy,hR.mono ?_⟩;rintro e W3 (⟨he,a4,a5⟩ | ⟨he,a2⟩)
  ·exact .inl ⟨he,⟨_,zs,a4⟩,a5⟩
  ·exact .inr ⟨he,⟨_,zs,a2⟩⟩
 ·rintro e W3 ⟨hv,h⟩;refine⟨hv,?_⟩;rcases h with⟨_,rfl,u,hl,hJ⟩ | ⟨_,hp,u,rfl,hJ⟩
  ·exact .inl ⟨u,hl,hJ⟩
  ·exact .inr ⟨u,hp,hJ⟩
end Go.Proofs.YtonfdlhikinldaaGreatDoor
