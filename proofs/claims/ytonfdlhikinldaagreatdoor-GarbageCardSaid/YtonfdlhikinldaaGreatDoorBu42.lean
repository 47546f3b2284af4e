import Derived.Test.YtonfdlhikinldaaGreatDoorBu40
import Derived.Test.YtonfdlhikinldaaGreatDoorBu41
import Derived.Test.YtonfdlhikinldaaGreatDoorBu15
import Derived.Test.YtonfdlhikinldaaGreatDoorBu21
import Derived.Test.YtonfdlhikinldaaGreatDoorBu27
import Derived.Test.YtonfdlhikinldaaGreatDoorBu10
import Derived.Test.YtonfdlhikinldaaGreatDoorBu34
import Derived.Test.YtonfdlhikinldaaGreatDoorBu16
import Derived.Test.YtonfdlhikinldaaGreatDoorBu38
import Derived.Test.YtonfdlhikinldaaGreatDoorBu32
import Derived.Test.YtonfdlhikinldaaGreatDoorBu14
set_option maxRecDepth 100000
set_option linter.all false
set_option linter.unusedVariables false
set_option maxHeartbeats 16000000
namespace Go.Proofs.YtonfdlhikinldaaGreatDoor
open Go Go.RowKit Go.Proofs Lin Go.Proofs.Tryz
variable {J:List (Nat × Nat)}{D L G size k:Nat}{u:List UInt8}{p:Nat × Nat}{A:Arr}
def zPj(D size:Nat):Nat:=(size+(D*44 - 12) - 1) / (D*44 - 12)
def zA0(s:Ast):List Nat:=sel s.A.m (zBi (zCF s.L s.sp))
def zC1(s:Ast):Nat:=(s.h.seq+1) % 2^64
def headTo(D L G:Nat)(s:Ast)(A:Arr)(l:List Ob)(size:Nat)(B:List Nat):Ast:=
 let u:=B.map fun b=>(b,zC1 s)
 let h':Hd:=⟨zC1 s,s.h.D,s.h.L,s.h.G,size,(u.getD 0 (0,0)).1,(u.getD 0 (0,0)).2⟩
 ⟨annTo false h' (wlTo D L (D+L+G) (zCE l) u A u.length) (D+L+G),h',l,u⟩
def commitD(D L G:Nat)(s:Ast)(l:List Ob):Option Nat × Ast:=
 let t:=zPj D (zCE l).length
 if(zA0 s).length<t then(some 10,s)else(none,headTo D L G s s.A l (zCE l).length ((zA0 s).take t))
def putsTo(D L N q:Nat)(B:List Nat)(d:List UInt8)(A:Arr):Nat->Arr
 | 0=>A
 | k+1=>putP D L N (B.getD k 0) q (zM6 d k (D*44)).length (lx (zM6 d k (D*44))) (putsTo D L N q B d A k)
def commitA(D L G:Nat)(s:Ast)(n:ByteArray)(d:List UInt8):Option Nat × Ast:=
 let u:=zEb D d.length
 let size:=(zCE s.L).length+(13+n.size+4*u)
 let t:=u+zPj D size
 if(zA0 s).length<t then(some 10,s)
 else
  let B:=(zA0 s).take t
  (none,headTo D L G s (putsTo D L (D+L+G) (zC1 s) B d s.A u) (s.L.insertIdx (lbN s.L n) ⟨n,d.length,zC1 s,B.take u⟩) size (B.drop u))
theorem zCX(D L G:Nat)(s:Ast)(l:List Ob):commitD D L G s l=if(zA0 s).length<zPj D (zCE l).length then(some 10,s)else(none,headTo D L G s s.A l (zCE l).length ((zA0 s).take (zPj D (zCE l).length))):=rfl
def folP(D L G size:Nat):Nat->Nat × Nat->List UInt8->List (Nat × Nat)->Arr->Option (List UInt8 × List (Nat × Nat)) × Arr
 | 0,_,_,_,A=>(none,A)
 | k+1,p,out,sp,A=>
  if size≤out.length then(some (out.take size,sp),A)
  else if A.m<sp.length∨p.1<1∨A.m≤p.1 then(none,A)
  else match getP D L G p.1 p.2 A with
   | (none,A')=>(none,A')
   | (some x,A')=>folP D L G size k (ofB x 4,ofB (fun i=>x (4+i)) 8) (out++(xl (D*44) x).drop 12) (sp++[p]) A'
def zIT(D L G:Nat)(h:Hd)(A:Arr):Option (List UInt8 × List (Nat × Nat)) × Arr:=folP D L G h.size (A.m+2) (h.fb,h.fs) [] [] A
theorem zPt(h:size≤u.length):folP D L G size (k+1) p u J A=(some (u.take size,J),A):=by
 rw[folP,yq h]
theorem zPu(h:¬size≤u.length)(O:A.m<J.length∨p.1<1∨A.m≤p.1):folP D L G size (k+1) p u J A=(none,A):=by
 rw[folP,yl h,yq O]
theorem zNp(h:¬size≤u.length)(O:¬(A.m<J.length∨p.1<1∨A.m≤p.1))(V:(getP D L G p.1 p.2 A).1=none):folP D L G size (k+1) p u J A=(none,(getP D L G p.1 p.2 A).2):=by
 rw[folP,yl h,yl O];generalize getP D L G p.1 p.2 A=r at *;obtain⟨x,Z⟩:=r;subst V;rfl
theorem zNq{x:Nat->UInt8}(h:¬size≤u.length)(O:¬(A.m<J.length∨p.1<1∨A.m≤p.1))(V:(getP D L G p.1 p.2 A).1=some x):
  folP D L G size (k+1) p u J A=folP D L G size k (ofB x 4,ofB (fun i=>x (4+i)) 8) (u++(xl (D*44) x).drop 12) (J++[p]) (getP D L G p.1 p.2 A).2:=by
 rw[folP,yl h,yl O];generalize getP D L G p.1 p.2 A=r at *;obtain⟨y,Z⟩:=r;subst V;rfl
theorem zUJ(A:Arr)(d b:Nat):(A.rd d b).2.2.m=A.m:=by
 unfold Arr.rd;split;{rfl};{split<;>rfl}
theorem zUb(A:Arr)(d b:Nat):(A.qj d b).2.2.m=A.m:=by
 unfold Arr.qj;split<;>exact zUJ _ _ _
theorem zNr(b q:Nat)(s:Sst)(i:Nat):(tryP b q s i).A.m=s.A.m:=by
 unfold tryP;split;{rfl};{exact zUb _ _ _}
theorem zLD{b q:Nat}:∀(l:List Nat) (t:Sst × Bool),(loadsP b q t l).1.A.m=t.1.A.m
 | [],_=>rfl
 | i::l,t=>(zLD (b:=b) (q:=q) l (tryP b q t.1 i,t.2&&((tryP b q t.1 i).sh i).isSome)).trans (zNr b q t.1 i)
theorem zLE{D L G b q:Nat}:∀(f:Nat) (s:Sst),(repP D L G b q f s).1.A.m=s.A.m
 | 0,_=>rfl
 | f+1,s=>by
  unfold repP
  split
  ·rfl
  ·split
   ·rfl
   ·have u:=zLD (b:=b) (q:=q) (zAV D L (D+L+G) s.lost) (s,true)
    split
    ·exact u
    ·exact(zLE (D:=D) (L:=L) (G:=G) (b:=b) (q:=q) f (loadsP b q (s,true) (zAV D L (D+L+G) s.lost)).1).trans u
theorem zQ5(b q:Nat)(s:Sst):∀k,(tryN b q s k).A.m=s.A.m
 | 0=>rfl
 | k+1=>(zNr _ _ _ _).trans (zQ5 b q s k)
theorem zNs(D L G b q:Nat)(A:Arr):(getP D L G b q A).2.m=A.m:=(zLE 17 _).trans (zQ5 b q (zEY A) D)
def zCv(D:Nat)(M:Nat)(L:List Ob)(u:List (Nat × Nat)):Bool:=
 L.all (fun o=>decide (o.blk.length=zEb D o.size))&&(zCF L u).all (fun b=>decide ((zCF L u).count b≤1)&&decide (b<M))&&zJn L
end Go.Proofs.YtonfdlhikinldaaGreatDoor
namespace Go.Proofs.YtonfdlhikinldaaGreatDoor
open Go Go.RowKit Go.Proofs Lin Go.Shelf Go.Proofs.Tryz
variable {E:List Nat}{ov lv bv ov' lv' bv':Value}{w w':zw}{m:Loc}{s:Ast}
attribute [local go_sem] Oper.semAt_some
theorem zFd(s:Ast)(h:s.h.seq<2^64):IntKind.u64.wrap ((s.h.seq:Int)+1)=((zC1 s:Nat):Int):=by
 rw[IntKind.wrap_u64];unfold zC1;omega
theorem zHj:(prog.info? 3).map (fun i=>(i.zero,i.size,i.bytes))=some (some (.int .i64 0),1,8):=by kernel_rfl
section
variable {P:Program} {Q:Exit->Act->World->Prop} {lr n:Nat}
theorem zAa{O:Nat}{l:List Oper}{a:Act}{w:zw}(t:Tr)(S:World->Prop)(hm:P.follows .mixedOrders=true)(Z:l.all (fun o=> !zCz o)=true)(J:¬LetsOut Q)(u:(Region.noSelect l.toArray&&zGn .any l.toArray t (Array.replicate l.length false)&&decide (zKo t≤l.length)&&zIO l t)=true)
  (V:∀c a d v w,Q (.panic c) (Act.put a d v) w->Q (.panic c) a w)(hS:S w.drew)(hh:zD4 P l Q S t a w.drew):(Code.region O l.toArray true).wpIn (Fence.wide.inRound lr) n P Q a w:=by
 simp only[yD,yL]at u;refine wpIn_region_any hm (zBU (zDR Z) J _ _ _ _ (wpAny_of_held (S:=S) _ _ _ _ ?_));exact zCD (by simpa using u.1.2) (zBa u.1.1.1 V t _ a _ hS (by simpa using u.1.1.2) u.2 hh)
end
theorem ArE.mark{Z lv:Value}(H:ArE w m s E Z lv){d:Nat}(O:w.heap[d]? =some (.deferred (some [])))(u:Upd (· =d) w w'):ArE w' m s E Z lv:=by
 have hk:∀b,b=d->∀t,¬Kd w b t:=fun b e t ⟨c,h⟩=>(by subst e;rw[O]at h;cases h);have ho:∀c,c=d->¬zMy m.ar m.l m.cb (m.D+m.L+m.G) m.cv m.β c:=fun c e hc=>(by obtain⟨t,V,_⟩:=H.dsk.arc.qb hc;exact hk c e t V);obtain⟨Q,h1,h2⟩:=H.dsk.ring;refine⟨⟨H.dsk.arc.apart u ho,⟨Q,h1.qy u fun b e=>⟨hk b e,fun hc=>?_⟩,h2.upd u fun e=>?_⟩,H.dsk.tab.upd u fun e=>?_,H.dsk.out1,H.dsk.out2⟩,H.lo,H.obs.upd u fun b e=>⟨hk b e _,hk b e _⟩,H.sps.upd u fun b e=>hk b e _⟩;{obtain⟨t,V,_⟩:=h1.qb hc;exact hk b e t V};{obtain⟨l,⟨es,c,J,_⟩,_⟩:=h2;rw[e,O]at J;cases J};{have J:=H.dsk.tab 0 zd;have h4:w.heap[2]? =some (.deferred (some [])):=(by rw[e];exact O);simp[World.cell?,h4]at J}
theorem ArR.mark{u w w':zw}(h:ArR u m E s w){d:Nat}(hd:w.heap[d]? =some (.deferred (some [])))(V:Upd (· =d) w w')(h0:u.heap.size≤d):ArR u m E s w':=by
 obtain⟨E1,J,O,h1,h2,h3⟩:=h;exact⟨E1,J,O,h1.mark hd V,h2,h3.trans V fun c e Z=>by have e':=e;omega⟩
theorem zBE.re{ar cb kb mb u:Nat}{l:zAK}{A A':Arr}{D L G:Nat}{Z:Value}{β:Nat->Nat}{h h':Hd}(H:zBE w ar cb kb mb u l A D L G Z β h ov lv bv E){X:Nat->Prop}(V:Upd X w w')(hA:zAB w' ar cb kb l A' D L G Z β h' ov' lv' bv')
  (hX:∀c,X c->c<w.heap.size->(∃t,Kd w c t∧t≠249∧t≠173∧t≠171)∧c≠2):zBE w' ar cb kb mb u l A' D L G Z β h' ov' lv' bv' E:=by
 obtain⟨Q,h1,h2⟩:=H.ring;refine⟨hA,⟨Q,h1.kept V fun c hc O=>?_,h2.upd V fun hx=>?_⟩,H.tab.upd V fun hx=>(hX _ hx H.tab.lt).2 rfl,H.out1,H.out2⟩;{obtain⟨⟨t,J,h3,h4,h5⟩,_⟩:=hX c hc O;refine⟨⟨t,J,h3⟩,fun ho=>H.jh J h4 h5 (ho.imp id .inr)⟩};{obtain⟨⟨t,J,_⟩,_⟩:=hX mb hx h2.lt;exact h2.qd J}
theorem zAB.jo{u V O:Nat}{l:zAK}{A:Arr}{D L G:Nat}{cv:Value}{β:Nat->Nat}{h h':Hd}(H:zAB w u V O l A D L G cv β h ov lv bv)
  (Z:Upd (· =u) w w')(hk:zO w w')(hr:Row w' u 0 13 (zHh l.ab V O h' ov' lv' bv')):zAB w' u V O l A D L G cv β h' ov' lv' bv':=
 ⟨hr,hk _ _ H.kd,H.arr.kept Z (fun b J _ e=>H.qm (e▸J)),
  H.cd.kinds Z (fun b J t ht=>by
   have e:t=126:=by
    rcases Nat.decEq t 126 with hne | he
    ·exact absurd rfl ((J▸ht:Kd w u t).ne H.kd hne)
    ·exact he
   subst e;decide) (by have:=H.right.d1;omega),H.right,H.n,H.wait⟩
theorem ArE.jq{s s':Ast}{Z lv ov' lv':Value}(H:ArE w m s E Z lv)(O:Upd (fun c=>m.l.own (m.D+m.L+m.G) c∨c=m.ar) w w')(V:zAB w' m.ar m.cb m.kb m.l s'.A m.D m.L m.G m.cv m.β s'.h ov' lv' .nilIface)(ho:zJw w' ov' s'.L)(hs:zGT w' lv' s'.sp):ArE w' m s' E ov' lv':=by
 refine⟨H.dsk.re O V fun c hc _=>?_,H.lo,ho,hs⟩;rcases hc with hc | rfl;{refine⟨?_,fun e=>H.dsk.out1 (.inr (.inl (e▸hc)))⟩;have J:m.l.own s.A.n c:=(by rw[H.dsk.arc.n];exact hc);obtain⟨t,u⟩:∃t,Kd w c t:=(by obtain⟨t,u,_⟩:=H.dsk.arc.qb (.inr (.inl hc));exact⟨t,u⟩);rcases H.dsk.arc.arr.kind J u with e | e | e | e<;>subst e<;>exact⟨_,u,zd,zd,zd⟩};{exact⟨⟨_,H.dsk.arc.kd,zd,zd,zd⟩,fun e=>H.dsk.out1 (.inl e.symm)⟩}
theorem Bl.open{w:zw}{base:Nat}{v:Value}{l:List UInt8}(h:Bl w base v l):∃a b c,v=.slice a l.length c∧(0<l.length->a=zp b)∧Rd w b 0 l.length (rb (lx l))∧(0<l.length->Kd w b 5)∧l.length≤c∧c≤9223372036854775807:=by
 obtain⟨a,b,c,e,u,J,Z,O,_⟩:=Vc.shape h;have h':=h;rw[e]at h';exact⟨a,b,c,e,u,J.rd,fun V=>(O V).2,Z,Vc.jn h'⟩
theorem zHk{t x:Nat}(h:x∈(zA0 s).take t):x<s.A.m:=by
 have u:=yBG h;unfold zA0 sel at u;simp at u;exact u.1
theorem zHl{z u t i:Nat}(V:0<u)(hz:0<z)(Z:t=(z+u - 1) / u)(hi:i<t):i*u<z:=by
 have O:i+1≤(z+u - 1) / u:=zo;have J:=(Nat.le_div_iff_mul_le V).1 O;rw[Nat.succ_mul]at J;omega
def zUG(O:zw)(V J N:Nat)(l:List Nat)(u:List {i:Nat // i<N∧zBi l i=true})(W:zw):Prop:=
 ((∃v,Boxed W V 158 v∧Vc W O 3 v u.length (fun i=>I ((u.map (·.1)).getD i 0:Nat)))∧Upd (· =V) O W)∧u.length≤J
theorem zHm(w6:zw)(vb V N:Nat)(l:List Nat):OwnFrom w6 (zUG w6 vb V N l):=by
 refine OwnFrom.and (OwnFrom.and (Own.from (fun s X Y O hs hg J=>?_) _) (zB4 _ _ (yb _))) (ownFrom_pure _ _);obtain⟨v,Z,h2,h3⟩:=holdsRow_own (β:=List {i:Nat // i<N∧zBi l i=true}) w6 vb 158 3 1 (fun u=>u.length) (fun u=>(List.range u.length).map fun i=>I ((u.map (·.1)).getD i 0:Nat)) (fun _ _=>True) s X Y O (by obtain⟨v,Z,h2⟩:=hs;exact⟨v,Z,h2,yAf⟩) hg J;exact⟨v,Z,h2⟩
def zUX(J:zw)(O u N:Nat)(l:List Nat):Code->List {i:Nat // i<N∧zBi l i=true}->World->Prop
 | .exit id,pre,W=>id=0∧∃p x,pre=p++[x]∧p.length=u∧zUG J O u N l p W
 | _,_,_=>False
theorem zK2(O:zw)(V J N:Nat)(l:List Nat):∀c,OwnFrom O (zUX O V J N l c):=by
 intro c;(cases c with |exit id=>(intro s X Y u hs hg hr;obtain⟨h1,p,x,h2,Z,h4⟩:=hs;exact⟨h1,p,x,h2,Z,zHm O V J N l p X Y u h4 hg hr⟩)|_=>(intro s X Y u hs _ _;exact hs))
def KpC(n₀ u:Nat)(A B:zw):Prop:=Upd (fun c=>c=u∨n₀≤c) A B
theorem KpC.t{n₀ u:Nat}{A B C:zw}(h:KpC n₀ u A B)(k:KpC n₀ u B C):KpC n₀ u A C:=Upd.trans h k fun _ h _=>h
theorem KpC.b{n₀ J:Nat}(W:zw)(l:Nat)(o O:Obj)(hl:n₀≤l)(h:W.heap[l]? =some o)(Z:o.isCells=false)(V:o.isWalk=false):KpC n₀ J W (W.putObj l O):=
 ⟨rfl,rfl,rfl,by rw[World.putObj_size];exact yb _,fun k hk u=>World.putObj_heap_other (fun e=>u (.inr zo))⟩
theorem zL2(w0 w:zw)(m:Loc)(s:Ast){ov lv:Value}(H:ArE w0 m s E ov lv)(hb:Below w0 w0 w)(l:List Ob)(a:Option Addr)(b c:Nat)(K:Nat->UInt8)(S:Nat->Il)(hl:zBN w a b c l K S)(n0:(zCE l).length≤400000)
  (hL:s.L.length≤1000000)(c6:s.sp.length≤1000000)(i1:(s.L.flatMap Ob.blk).length≤1000000)(hm:s.A.m≤1000000)(y2:s.h.ok)(l9:s.h.seq<2^64):
  Calls prog 62 #[m.ar,.slice a l.length c,.pointer none,.slice none 0 0] w fun e w'=>e=.returned (zAk (commitD m.D m.L m.G s l).1)∧ArR w0 m E (commitD m.D m.L m.G s l).2 w':=by
 have E5:=H.dsk.arc.right.d1;have E4:=H.dsk.arc.right.d2;have o0:=zz H;have b7:=zz hb;have HH:=zz (H.later hb);have HL:=zz hl;have q4:=zz y2;have HQ:=zz (zFd s l9);obtain⟨q,hq⟩:=zx (zC1 s);have C6:=zz hq;rw[<-hq]at HQ;have m1:q<2^64:=(by rw[hq];unfold zC1;exact yAM _ zd);have B2:w.cell? (m.ar,3)=some (U64 s.h.seq):=(H.later hb).dsk.arc.qi.cell 0 zo;have c9:=zz (zDS (w.alloc (.cells #[.int .i64 0] 3)) a b c l K S (hl.later ((yh _ w).alloc (yb _) _)) n0);obtain⟨z,hz⟩:=zx ((zCE l).length);have HZ:=zz hz;obtain⟨n,hn⟩:=zx l.length;have HN:=zz hn;rw[<-hz]at n0;rw[<-hn]at c9 ⊢;have u5:Below w w (w.alloc (.cells #[.int .i64 0] 3)):=(yh _ w).alloc (yb _) _;have p0:=zz u5;have n4:=zz (yr (Row.lit w #[.int .i64 0] 3) (Kd.new w #[.int .i64 0] 3));obtain⟨u,l4⟩:=zx (m.D*44 - 12);have m4:=zz l4;have n9:m.D*44=u+12:=zo;have p7:32≤u∧u≤516:=zo;have j1:∀W:World,(binOp .neq 208 (.pointer none) (.pointer none)).run prog W=.ok (.bool false) W:=fun W=>(by kernel_rfl);clear H hl y2 l9 hz hn hq u5 l4 hb;refine(callsIn_wide (n:=3)).1 (callsIn_of_wp_marks func62 rfl yAf ?_ rfl);simp only[ntmps62,yX,yF,yK,Nat.reduceAdd,Nat.reduceSub,yO,yN,yAd,yT,yAe,yAb];refine wpIn_wide.2 ?_;go_upto_region 2 with fail;rw[HQ.o];go_upto_region 7 with fail;generalize w.alloc (.cells #[.int .i64 0] 3)=w1 at *;go_wp2_with fail;refine c9.o.mono ?_;rintro e w2 ⟨v2,rfl,k6,h7⟩;obtain⟨C5,F1,B7,rfl,-⟩:=k6.shape;have h9:=zz (p0.o.trans (h7.mono p0.o.size));have j2:=zz (yr (n4.o.1.later h7) (n4.o.2.later h7));rw[<-HZ.o];clear k6 h7 p0 n4 c9 B2;have j7:Below w2 w2 (w2.alloc (.cells #[.int .i64 (z:Int)] 3)):=(yh _ w2).alloc (yb _) _;have d5:=zz (h9.o.trans (j7.mono h9.o.size));have m8:=zz (yr (j2.o.1.later j7) (j2.o.2.later j7));have j8:=zz (yr (Row.lit w2 #[.int .i64 (z:Int)] 3) (Kd.new w2 #[.int .i64 (z:Int)] 3));have E6:=h9.o.size;have C9:=j2.o.2.lt;clear j7 h9 j2;go_upto_region 10 with fail;generalize w2.alloc (.cells #[.int .i64 (z:Int)] 3)=w3 at *;have z6:=zz (HH.o.later d5.o);have q2:=zz (zDW w3 m.ar m.cb m.kb m.l s.A m.D m.L m.G m.cv m.β s.h ov lv .nilIface z6.o.dsk.arc);rw[n9]at q2;have d1:Below w3 w3 ((w3.alloc (.cells #[.int .i64 (u:Int)] 3)).alloc (.cells #[.slice none 0 0] 158)):=((yh w3 w3).alloc (yb _) _).alloc zs _;have j4:=zz (d5.o.trans (d1.mono d5.o.size));have q3:=zz (yr (m8.o.1.later d1) (m8.o.2.later d1));have q6:=zz (yr (j8.o.1.later d1) (j8.o.2.later d1));have m6:=zz (yr ((Row.lit w3 #[.int .i64 (u:Int)] 3).alloc (.cells #[.slice none 0 0] 158)) ((Kd.new w3 #[.int .i64 (u:Int)] 3).alloc (.cells #[.slice none 0 0] 158)));have n8:=zy (Row ((w3.alloc (.cells #[.int .i64 (u:Int)] 3)).alloc (.cells #[.slice none 0 0] 158)) (w3.heap.size+1) 0 1 (fun _=>.slice none 0 0)∧Kd ((w3.alloc (.cells #[.int .i64 (u:Int)] 3)).alloc (.cells #[.slice none 0 0] 158)) (w3.heap.size+1) 158) (by have h1:=Row.lit (w3.alloc (.cells #[.int .i64 (u:Int)] 3)) #[.slice none 0 0] 158;have h2:=Kd.new (w3.alloc (.cells #[.int .i64 (u:Int)] 3)) #[.slice none 0 0] 158;rw[yw]at h1 h2;exact⟨h1.congr fun i hi=>by match i,hi with | 0,_=>rfl,h2⟩);have g2:=zy (Boxed ((w3.alloc (.cells #[.int .i64 (u:Int)] 3)).alloc (.cells #[.slice none 0 0] 158)) (w3.heap.size+1) 158 (.slice none 0 0)) (by have h2:=Boxed.new (w3.alloc (.cells #[.int .i64 (u:Int)] 3)) 158 (.slice none 0 0);rwa[yw]at h2);have E1:=d5.o.size;have C7:=j8.o.2.lt;clear d1 d5 m8 j8;go_upto_region 12 with(go_at_call 91;refine q2.o.mono ?_;rintro e w4 ⟨rfl,rfl⟩);rename World=>w3;have D7:((w3.alloc (.cells #[.int .i64 (u:Int)] 3)).alloc (.cells #[.slice none 0 0] 158)).heap.size=w3.heap.size+2:=zs;generalize(w3.alloc (.cells #[.int .i64 (u:Int)] 3)).alloc (.cells #[.slice none 0 0] 158)=w5 at *;clear q2;have t3:=zz (HH.o.later j4.o);have s4:=zz (zNu w5 m s t3.o hL c6 i1);go_wp2_with fail;refine s4.o.mono ?_;rintro e w6 ⟨b1,b3,mb,cnt,rfl,a2,z4,f0,q8,t2,q0,E7,C0,C3⟩;have c3:=zz (j4.o.trans (a2.mono j4.o.size));have j0:=zz (HH.o.later c3.o);have e6:=zz (yr (q3.o.1.later a2) (q3.o.2.later a2));have e8:=zz (yr (q6.o.1.later a2) (q6.o.2.later a2));have f9:=zz (yr (m6.o.1.later a2) (m6.o.2.later a2));have a8:=zz (yr (n8.o.1.later a2) (n8.o.2.later a2));have m0:=zz (zJ g2.o a2 g2.o.lt);have A5:=zz (yr z4 f0);have A3:=zz (yr q8 t2);have z7:=zz q0;have D6:=a2.size;have y4:zHs b3 mb cnt (zCF s.L s.sp) w6:=⟨q8.cell 0 zo,q0⟩;have A6:=zz y4;clear g2 s4 a2 z4 f0 q8 t2 q0 j4 q3 q6 m6 n8 t3 y4;go_wp2_with fail;refine(wpIn_wide (n:=3)).1 ?_;obtain⟨vb,m5⟩:=zx (w3.heap.size+1);have u8:=zz m5;rw[<-m5]at a8 m0 ⊢;clear m5;obtain⟨O,d8⟩:=zx (zPj m.D z);have l1:=zz d8;have a6:O=(z+u - 1) / u:=(by rw[d8,m4.o];rfl);have D4:O≤400000:=(by rw[a6];have h1:(z+u - 1) / u≤(z+u - 1) / 32:=Nat.div_le_div_left p7.1 zd;omega);have g7:=zz a6;have HT:=zz (show wrap64 (((z:Int)+u - 1) / (u:Int))=(O:Int)by have h1:((z:Int)+u - 1)=((z+u - 1:Nat):Int):=zo;rw[h1,<-Int.natCast_ediv,IntWalk.wrap64_in,a6];have:=yAP (z+u - 1) u;generalize(z+u - 1) / u=y at *;constructor<;>omega)
 have F0:=e6.o.2.lt;have D8:=e8.o.2.lt;have D5:=f9.o.2.lt;have D2:=a8.o.2.lt;have n5:w.heap.size≠vb:=fun e=>absurd rfl (Kd.ne (e▸e6.o.2) a8.o.2 zd);have p6:w2.heap.size≠vb:=fun e=>absurd rfl (Kd.ne (e▸e8.o.2) a8.o.2 zd);have p1:w3.heap.size≠vb:=fun e=>absurd rfl (Kd.ne (e▸f9.o.2) a8.o.2 zd);clear d8 a6;refine wpIn_rangeFunc_ownG rfl zo (gf:=119) (lb:=#[b1,b3]) rfl yAf (enters_of func119 zk rfl)
  (zFn Fence.wide (3 - 1) yAf yAf rfl zo b1 b3 mb cnt m.ar (zCF s.L s.sp) m.l s.A hm (KpC w6 vb) (fun A B h hc=>?kc) w6 (A5.o.1.cell 0 zo) j0.o.dsk.arc.c0 j0.o.dsk.arc.arr ?a0 A6.o)
  KpC.t KpC.b (yh _ _) (fun _=>rfl)
  (zUG w6 vb O s.A.m (zCF s.L s.sp)) (zUX w6 vb O s.A.m (zCF s.L s.sp)) (zHm _ _ _ _ _) (zK2 _ _ _ _ _)
  ?init
  (fun i=>{tmps:=#[.pointer (zp m.ar),.slice a n c,.pointer none,.slice none 0 0,undef,undef,undef,undef,.nilIface,.int .u64 (q:Int),.pointer (zp w),.pointer (zp w2),.pointer (zp w3),.pointer (zp vb),I (i.1:Nat),undef,undef,undef,undef,undef,.pointer (zp m.ar),.pointer (zp m.ar),.pointer (some ⟨m.ar,3,none⟩),.pointer (some ⟨m.ar,3,none⟩),U64 s.h.seq,.int .u64 (q:Int),.pointer none,.bool false,undef,undef,undef,undef,undef,undef,undef,undef,undef,undef,undef,undef,undef,.slice a n c,.slice C5 z B7,.int .i64 (z:Int),.pointer none,.bool false,undef,undef,undef,undef,undef,undef,undef,undef,undef,undef,undef,.pointer (zp m.ar),.pointer (zp m.ar),.pointer (zp m.ar),I ((u:Int)+12),.int .i64 (u:Int),.pointer (zp m.ar),.func (.func 119) #[] #[b1,b3],I (i.1:Nat),undef,undef,undef,undef,undef,undef,undef,undef,undef,undef,undef,undef,undef,undef,undef,undef,undef,undef,undef,undef,undef,undef,undef,undef,undef,undef,undef,undef,undef,undef,undef,undef,undef,undef,undef,undef,undef,undef,undef,undef,undef,undef,undef,undef,undef,undef,undef,undef,undef,undef,undef,undef,undef,undef,undef,undef,undef,undef,undef,undef,undef,undef,undef,undef,undef,undef,undef,undef,undef,undef,undef,undef,undef,undef,undef,undef,undef,undef,undef,undef,undef,undef,undef,undef,undef,undef,undef,undef,undef,undef,undef,undef,undef,undef,undef,undef,undef,undef,undef,undef,undef,undef,undef,undef,undef,undef,undef,undef,undef,undef,undef,undef,undef,undef,undef,undef,undef,undef,undef,undef,undef,undef],defers:=[]}) ?assign ?body ?done ?stop
 (case kc=>have n3:∀g,w5.heap.size≤g->g<w6.heap.size->¬(g=vb∨w6.heap.size≤g):=fun g h1 h2 h3=>(by have:=u8.o;omega);exact⟨((yk (a:=b3) (h.block b3 (yt _ _ hc.1) (n3 b3 C0 A3.o.2.lt))).trans hc.1),hc.2.upd h (n3 mb C3 z7.o.lt)⟩);(case a0=>rw[j0.o.dsk.arc.n];omega);(case init=>exact⟨⟨⟨_,m0.o,Vc.nil _ _ _ _⟩,Upd.refl _ _⟩,yAO _⟩);(case assign=>intro l i W K hK;gi_wp2;exact hK)
 case body=>
  rintro l k0 i W ⟨⟨⟨v,b2,a1⟩,Z⟩,b6⟩ e7;have hi:=i.2;generalize hiv:i.1=iv at *;have g0:=zz b2;have d3:=zz a1;have j3:=zz Z;have k1:=zz (e6.o.1.upd Z fun _=>n5);have h8:=zz (e8.o.1.upd Z fun _=>p6);have q5:=zz (f9.o.1.upd Z fun _=>p1);obtain⟨va,vo,vc,rfl,-⟩:=a1.shape;have D0:=zz hi;have v3:=Z.size;have e0:=b2.cell;have e1:=k1.o.cell 0 zd;have e2:=h8.o.cell 0 zs;have e3:=q5.o.cell 0 zs;clear b2 a1 Z hi;obtain⟨pl,b4⟩:=zx k0.length;have J:=zz b4;rw[<-b4]at e0 b6 e7;clear b4;gi_wp2_with fail;obtain⟨ι2,D1,wB,f8,d2⟩:=zK W;have z0:=fun n=>((f8 n).cell (p:=vb) (show vb<W.heap.size by omega)).trans e0;have z1:=fun n=>((f8 n).cell (p:=w) (show w.heap.size<W.heap.size by omega)).trans e1;have z2:=fun n=>((f8 n).cell (p:=w2) (show w2.heap.size<W.heap.size by omega)).trans e2;have z3:=fun n=>((f8 n).cell (p:=w3) (show w3.heap.size<W.heap.size by omega)).trans e3;clear f8;refine zAa (.rd [0,1,2,3,4,5,6,7,8,9,10] .done) (fun V=>∃n,V=wB n) zA7 zk (fun⟨_,_,h⟩=>h) zk (fun c a d v w h=>by cases d<;>exact h) (d2.o _ (yh _ _).drew) ?_;refine zE ?_;simp only[pick,ym,yo,yi,yj];change wpQuiet _ _ _ _ (_::_::_::_::_::_::_::_::_::_::_::[]) _;(repeat(go_big_quiet_step (fail)));refine wpQuiet_nil ?_;clear z0 z1 z2 z3;refine zF ?_;have hT:=HT.o;rw[hT];have g4:=zz (zAt W);have a7:=zz (zJ g0.o g4.o g0.o.lt);have d4:=zz (d3.o.later g4.o);have r7:=zz (j3.o.trans ((Upd.of_below g4.o).mono (H:=(· =vb)) (fun _ _ e=>e.elim)) fun _ h _=>h);have x9:=a7.o.lt;have c0:=a7.o.cell;have cf:=a7.o.frozen;rw[<-J.o]at c0;by_cases f6:pl=O;{have hb:((pl:Int)==O)=true:=(by simp[f6]);rw[hb];go_wp2_with fail;gi_wp2_with fail;exact⟨zAb g4.o _,⟨rfl,k0,i,rfl,J.o.symm.trans f6,⟨⟨_,a7.o,d4.o⟩,r7.o⟩,by rw[<-J.o];omega⟩⟩}
  ·have hb:((pl:Int)==O)=false:=(by simp;omega);rw[hb];have t6:w6.heap.size≤W.drew.heap.size:=v3;go_wp2_with fail
   gi_wp2_with (
    gi_at_builtin
    refine zAZ (fun⟨_,_,h⟩=>h) _ _ _ zk ?_;refine zW rfl (.tmp 76) (.tmp 78) 158 rfl w6 3 (.int .i64 0) 8 underlying158 zHj rfl _ pl _ rfl (by rw[J.o];exact d4.o) (I iv) _ rfl rfl zo zd t6 ?_;intro v4 w4 o8 v9;obtain⟨s1,E9,r9,rfl,-⟩:=o8.shape;have u7:=zz o8;have s8:=zz v9;have r5:¬some vb=(Value.slice va pl vc).ownBlock:=fun e=>(by rw[J.o]at e;have:=(d4.o.lt vb e.symm).1;omega);have h6:=zy (Boxed w4 vb 158 _) ((s8.o.block vb x9 r5).trans a7.o);have c4:=h6.o.frozen;have c5:=h6.o.cell;clear o8 v9 r5)
   go_wp2_with fail;gi_wp2_with fail;have d9:∀b,some b=(Value.slice va pl vc).ownBlock->w6.heap.size≤b∧b<W.heap.size∧∃c t f,W.heap[b]? =some (.cells c t f):=fun b e=>(by have h1:=d3.o.lt b (by rw[<-J.o];exact e.symm);exact⟨h1.1,h1.2,d3.o.cells b (by rw[<-J.o];exact e)⟩)
   have hu:Upd (fun b=>b=vb∨some b=(Value.slice va pl vc).ownBlock) W (w4.setCell vb (.slice s1 (pl+1) r9)):=
    ((((Upd.of_below g4.o).mono (H:=fun b=>b=vb∨some b=(Value.slice va pl vc).ownBlock) (fun _ _ e=>e.elim)).trans (s8.o.mono (H:=fun b=>b=vb∨some b=(Value.slice va pl vc).ownBlock) (fun _ _ e=>.inr e)) fun _ h _=>h)).setCell (a:=vb) (fun _=>.inl rfl) _
   refine⟨zAq hu (fun b e=>?_) _,hu.mono (fun b _ e=>?_),⟨⟨.slice s1 (pl+1) r9,h6.o.set _,?_⟩,?_⟩,?_⟩;{rcases e with rfl | e;{exact Boxed.cells g0.o};{exact(d9 b e).2.2}};{rcases e with rfl | e;{exact .inl rfl};{exact .inr (d9 b e).1}};{have e7:(k0++[i]).length=pl+1:=(by simp[J.o]);rw[e7];refine(u7.o.kept ((Upd.refl (· =vb) w4).qe 0 _) (fun k hk e=>?_)).congr fun j hj=>?_;{have:=(u7.o.lt k hk).1;omega};{by_cases v1:j<pl;{simp only[v1,yBa];rw[yP,yg,yg,yQ (by rw[yH,<-J.o];exact v1)]};{obtain rfl:j=pl:=zo;simp only[Nat.lt_irrefl,if_false];rw[yP,yg,yAC (by rw[yH,<-J.o];exact yb _),yH,<-J.o];simp[hiv]}}};{exact j3.o.trans hu fun b e i6=>(by rcases e with e | e;{exact e};{have:=(d9 b e).1;omega})};{rw[yB,yZ,<-J.o];omega}
 (case' done=>rintro Dd ys W hD u6 ⟨⟨⟨v,b2,a1⟩,Z⟩,b6⟩ hK;have h5:=u6;obtain⟨Bk,b0⟩:=zx (ys.map (·.1));have g5:ys.length=Bk.length:=(by rw[b0,yH]);rw[g5]at a1 b6;rw[<-b0]at a1 h5;have g6:=zy ((Bk.length<O->(zA0 s).length<O)∧(¬Bk.length<O->Bk=(zA0 s).take O∧¬(zA0 s).length<O)) (by have e:Bk=zA0 s:=h5;rw[<-e];exact⟨id,fun h=>⟨(List.take_of_length_le b6).symm,h⟩⟩);clear h5 u6 g5 b0);(case' stop=>rintro Dd cc k0 W hD l8 hX hK;have g1:=l8;obtain⟨id,rfl⟩:∃id,cc=.exit id:=(by cases cc<;>first | exact⟨_,rfl⟩ | exact hX.elim);obtain⟨rfl,ys,x,rfl,a5,⟨⟨v,b2,a1⟩,Z⟩,b6⟩:=hX;obtain⟨Bk,b0⟩:=zx (ys.map (·.1));have g5:ys.length=Bk.length:=(by rw[b0,yH]);rw[g5]at a1 b6 a5;rw[<-b0]at a1;have g6:=zy ((Bk.length<O->(zA0 s).length<O)∧(¬Bk.length<O->Bk=(zA0 s).take O∧¬(zA0 s).length<O)) (by obtain⟨t,ht⟩:=g1;have e:Bk++(x.1::t)=zA0 s:=(by rw[b0];have e:zA0 s=sel s.A.m (zBi (zCF s.L s.sp)):=rfl;rw[e,<-ht];simp);rw[<-e];exact⟨fun h=>absurd h zo,fun _=>⟨(List.take_left' a5).symm,by rw[yB,a5];omega⟩⟩);clear l8 g1 g5 b0 a5)
 all_goals
  obtain⟨va,vo,vc,rfl,-⟩:=a1.shape;have g0:=zz b2;have d3:=zz a1;have j3:=zz Z;have HK:=zz hK;have k1:=zz (yr (e6.o.1.upd Z fun _=>n5) (e6.o.2.upd Z n5));have h8:=zz (yr (e8.o.1.upd Z fun _=>p6) (e8.o.2.upd Z p6));have q5:=zz (yr (f9.o.1.upd Z fun _=>p1) (f9.o.2.upd Z p1));have v3:=Z.size;have k2:w0.heap.size≤vb:=by have:=u8.o;have:=b7.o.size;omega
  have q9:=zz (j0.o.aside Z (fun g e _=>by
   subst e;exact⟨o0.o.qg k2,fun e=>by have:=o0.o.dsk.tab.lt;omega,_,a8.o.2,zd,zd,zd,zd,zd,zd⟩))
  have i8:=zy (Below w0 w0 W) (Below.upd (b7.o.trans (c3.o.mono b7.o.size)) Z (fun b e=>by have e':=e;omega) (by have:=b7.o.size;have:=c3.o.size;omega));obtain⟨pl,b4⟩:=zx Bk.length;have J:=zz b4;have e0:=b2.cell;rw[<-b4]at e0 b6;have e1:=k1.o.1.cell 0 zd;have e2:=h8.o.1.cell 0 zs;have e3:=q5.o.1.cell 0 zs;clear b4 b2 a1 Z hK
  gi_wp2
  go_upto_region 16 with fail;obtain⟨ι3,E2,wC,d6,s9⟩:=zK W;have z0:=fun n=>((d6 n).cell (p:=vb) (show vb<W.heap.size by omega)).trans e0;have z1:=fun n=>((d6 n).cell (p:=w) (show w.heap.size<W.heap.size by omega)).trans e1;have z2:=fun n=>((d6 n).cell (p:=w2) (show w2.heap.size<W.heap.size by omega)).trans e2;have z3:=fun n=>((d6 n).cell (p:=w3) (show w3.heap.size<W.heap.size by omega)).trans e3;clear d6;refine zAU (zG (.rd [0,1,2,3,4,5,6,7,8,9,10] .done) (fun V=>∃n,V=wC n) zA7 zk zAW (s9.o _ (yh _ _).drew) ?_);refine zE ?_;simp only[pick,ym,yo,yi,yj];change wpQuiet _ _ _ _ (_::_::_::_::_::_::_::_::_::_::_::[]) _
  repeat(go_big_quiet_step (fail))
  refine wpQuiet_nil ?_;clear z0 z1 z2 z3;refine zF ?_;refine zV ?_;have hT:=HT.o;rw[hT];have i3:=zz (zAt W);by_cases i6:pl<O
  ·have hb:decide ((pl:Int)<O)=true:=(by simp;omega);rw[hb];go_wp2_with fail;have u3:=zy (W.drew.heap[Dd]? =some (.deferred (some []))) HK.o;have hf:=g6.o.1 (by rw[<-J.o];exact i6);have e9:commitD m.D m.L m.G s l=(some 10,s):=by
    rw[zCX,<-HZ.o,<-l1.o,yq hf]
   rw[e9];show LeavesInM _ _ _ _ _ _ (zBQ [Dd]) _ _;refine zAE [Dd] _ zs (fun d hd=>by rw[List.mem_singleton.1 hd];exact u3.o) (fun w' f1 f2 f3 f4 f5=>?_);have q1:Upd (· =Dd) W.drew w':=⟨f2,f3,f4,by rw[f1];exact yb _,fun k _ j1=>f5 k (by simpa using j1)⟩;refine⟨zAk (some 10),by simp[results,results62,go_sem,zAk],rfl,?_⟩;refine ArR.mark (ArR.ahead (i8.o.trans (i3.o.mono i8.o.size)) ⟨E,ov,lv,q9.o.later i3.o,fun c hc=>.inl hc,Upd.refl _ _⟩) u3.o q1 (by have:=b7.o.size;have:=c3.o.size;omega)
  ·have hb:decide ((pl:Int)<O)=false:=(by simp;omega);rw[hb];have y1:W.drew.cell? w=some (.int .i64 0):=e1;have u4:pl=O:=zo;have n2:=zz (g6.o.2 (by rw[<-J.o];exact i6));have z8:0<z:=(by rw[HZ.o,zA8];omega);have p4:0<O:=by
    have h1:=g7.o;rw[h1];exact Nat.div_pos zo zo
   have i5:=zz u4;generalize hwD:W.drew=wD at *;clear i6 hb u4 e0 e1 e2 e3 s9 hT;go_wp2_with fail;go_loopg [93] 0 (fun g p wr=>g=0∧p=I 0∧wr=wD)
   case atStart=>exact⟨rfl,rfl,rfl⟩
   case round=>
    obtain⟨rfl,rfl,u9⟩:=hrel;rw[u9];clear u9;go_upto_region 27 with fail;obtain⟨we,i9⟩:=zx wD.drew;have x8:Below wD wD we:=(by rw[i9];exact zA wD);have g9:=i3.o.trans (x8.mono i3.o.size);have d0:=zz g9;have o9:=zz (q9.o.later g9);have j6:∀g,w0.heap.size≤g->¬eX m E g:=fun g h1 h2=>(by have:=o0.o.qz h2;omega);have B0:=b7.o.size;obtain⟨a',vo,c',e,h1,h2,h3,h4,-⟩:=d3.o.shape;injection e with e1 e2 e3;subst e1 e3;have C2:=h1 (by rw[<-J.o,i5.o];exact p4);subst C2;have e9:=d3.o.jn;rw[<-J.o]at h3;have B5:=zy (zFA we ⟨zp vo,vo,0,vc⟩ Bk) (⟨fun _=>rfl,(h2.later g9).rd,fun h0=>((h4 h0).2).later g9,by rw[<-J.o];exact h3,e9⟩);clear h1 h2 h4 e2;have y7:=zz ((((HL.o.later (c3.o.mono (yb _))).upd j3.o fun b e=>by
     subst e;exact⟨fun h=>absurd rfl (h.ne a8.o.2 zd),fun h=>absurd rfl (h.ne a8.o.2 zd)⟩).later g9:zBN we a b c l K S))
    have c9:=zz (zDS we a b c l K S y7.o (by rw[<-HZ.o];exact n0));rw[<-HN.o]at c9;obtain⟨κ,E3,wB,m9,d2⟩:=zH (eX m E) we;have D9:=d0.o.size;have t0:=yk (a:=vb) (d0.o.block vb (show vb<W.heap.size by omega));have t1:=yk (a:=w) (d0.o.block w (show w.heap.size<W.heap.size by omega));have y0:∀n,(wB n).cell? vb=some (.slice vo pl vc):=fun n=>(yk (a:=vb) ((m9 n).block vb (show vb<we.heap.size by omega) (j6 vb k2))).trans (t0.trans (by rw[J.o];exact g0.o.cell));have y1:∀n,(wB n).cell? w=some (.int .i64 0):=fun n=>(yk (a:=w) ((m9 n).block w (show w.heap.size<we.heap.size by omega) (j6 _ B0))).trans (t1.trans (k1.o.1.cell 0 zd));refine zAU (zG (.rd [0,1,3,4,5,6] (.op 2 (.op 7 (.rd [8] .done)))) (fun V=>∃n,V=wB n) zA7 zk zAW (d2.o _ (by rw[<-i9];exact Upd.refl _ _)) ?_);rw[<-i9];clear i9 x8 m9 t0 t1;refine zE ?_;simp only[pick,ym,yo,yi,yj];change wpQuiet _ _ _ _ (_::_::_::_::_::_::[]) _
    repeat(go_big_quiet_step (fail))
    refine wpQuiet_nil ?_;clear y0;refine zD ?_;refine zB (i:=2) rfl rfl ?_;go_wp2_with fail;refine c9.o.mono ?_;rintro e w7 ⟨v7,rfl,m2,e4⟩;obtain⟨ba,bb,B6,rfl,y6,t9,i1,s6,y5⟩:=m2.open;have g8:=zz (yr y6 (yr t9 (yr i1 (yr s6 y5))));have z5:=zz e4;have v6:=d2.o _ ((Upd.of_below e4).mono (H:=eX m E) (fun _ _ h=>h.elim));have B4:=zz (o9.o.later e4);have y3:=zz (B5.o.later e4);have p8:=zz (zUD w7 m s B4.o (zCE l) ba bb 0 B6 g8.o.1 g8.o.2.1 g8.o.2.2.1 g8.o.2.2.2.1 g8.o.2.2.2.2 (by rw[<-HZ.o];omega) ⟨zp vo,vo,0,vc⟩ Bk y3.o (by rw[<-J.o];omega) (fun x hx=>by
     rw[n2.o.1]at hx;have:=zHk hx;omega) q m1 (fun i hi=>by
      rw[<-m4.o,<-HZ.o];exact zHl zo z8 g7.o (by rw[<-i5.o,J.o];exact hi)))
    rw[<-HZ.o]at p8 ⊢;rw[<-J.o]at p8;clear y6 t9 i1 s6 y5 m2 e4;go_wp2_with fail;refine⟨v6,zD ?_⟩;clear v6;refine zB (i:=7) rfl rfl ?_;go_wp2_with fail;refine p8.o.mono ?_;rintro e w8 ⟨v8,rfl,l6,n7⟩;obtain⟨SP,i4⟩:=zx (Bk.map fun b=>(b,q));rw[<-i4]at l6 n7;have p2:SP.length=pl:=(by rw[i4,yH,<-J.o]);obtain⟨sa,sb,sc,s2,c6⟩:=l6;rw[p2]at s2;subst s2;have C4:=zz i4;have m7:=zz c6;have k9:=ArR.ahead z5.o n7;have v0:=d2.o _ k9.upd;obtain⟨E8,A0,A7,c7,t8,s3⟩:=k9;have y8:=zz c7;have B3:=zz t8;have C1:=zz s3;have c1:=zz p2;clear c7 t8 s3 n7 c6 i4 p2;go_wp2_with fail;refine⟨v0,zE ?_⟩;clear v0 d2;simp only[pick,ym,yo,yi,yj];change wpQuiet _ _ _ _ (_::[]) _
    repeat(go_big_quiet_step (fail))
    refine wpQuiet_nil ?_;refine zF ?_;refine zV ?_;go_upto_region 28 with fail;obtain⟨A8,c7⟩:=zx (wlTo m.D m.L (m.D+m.L+m.G) (zCE l) SP s.A pl);rw[<-c7]at y8;have w9:=zz c7;clear c7;obtain⟨wg,i2⟩:=zx w8.drew;have p5:Below w8 w8 wg:=(by rw[i2];exact zA w8);have i0:=zz (y8.o.later p5);have g3:=zy (zFR wg sa sb sc SP) (m7.o.upd (Upd.of_below p5) fun _ h=>h.elim);have p9:=zz (C1.o.trans (Upd.of_below p5) fun _ h _=>h.elim);obtain⟨κ2,C8,wF,b5,i7⟩:=zH (fun _=>False) wg;have E0:=p9.o.size;have A1:=m7.o.els.addr (by rw[c1.o,i5.o];exact p4);subst A1;have e5:0<pl:=(by rw[i5.o];exact p4);obtain⟨A9,b9⟩:=zx (SP.getD 0 (0,0));obtain⟨fb,fs⟩:=A9;have l5:=zz b9;have x0:∀n,(wF n).cell? sb=some (I fb):=fun n=>by
     have h:=(g3.o.els.upd (b5 n) fun _ h=>h).ze (k:=0) (by rw[c1.o];exact e5);rw[yAZ]at h;rw[h];unfold spF;rw[<-b9];rfl
    have x1:∀n,(wF n).cell? (sb,1)=some (U64 fs):=fun n=>by
     have h:=(g3.o.els.upd (b5 n) fun _ h=>h).qe (k:=0) (by rw[c1.o];exact e5);rw[yAZ]at h;rw[h];unfold spF;rw[<-b9];rfl
    have x2:∀n,(wF n).cell? w2=some (.int .i64 (z:Int)):=fun n=>(yk (a:=w2) (((b5 n).block w2 (show w2.heap.size<wg.heap.size by omega) fun h=>h).trans (p9.o.block w2 (show w2.heap.size<we.heap.size by omega) (j6 _ zo)))).trans ((yk (a:=w2) (d0.o.block w2 (show w2.heap.size<W.heap.size by omega))).trans (h8.o.1.cell 0 zs));have x3:∀n,(wF n).cell? (m.ar,4)=some (I s.h.D):=fun n=>((i0.o.dsk.arc.qi).upd (b5 n) fun _ h=>h).cell 1 zo;have x4:∀n,(wF n).cell? (m.ar,5)=some (I s.h.L):=fun n=>((i0.o.dsk.arc.qi).upd (b5 n) fun _ h=>h).cell 2 zo;have x5:∀n,(wF n).cell? (m.ar,6)=some (I s.h.G):=fun n=>((i0.o.dsk.arc.qi).upd (b5 n) fun _ h=>h).cell 3 zo;refine zAU (zG (.rd [0,1,2,3,4,5,6,7,8,9,10] (.op 11 (.op 12 .done))) (fun V=>∃n,V=wF n) zA7 zk zAW (i7.o _ (by rw[<-i2];exact Upd.refl _ _)) ?_);rw[<-i2];clear i2 b5;refine zE ?_;simp only[pick,ym,yo,yi,yj];change wpQuiet _ _ _ _ (_::_::_::_::_::_::_::_::_::_::_::[]) _
    repeat(go_big_quiet_step (fail))
    refine wpQuiet_nil ?_;clear x0 x1 x2 x3 x4 x5;refine zD ?_;refine zB (i:=11) rfl rfl ?_;go_wp2_with fail;have q7:Below wg wg (wg.alloc (.cells (bc 7 (hc hd0)) 122)):=(yh _ _).alloc (yb _) _;refine⟨i7.o _ (Upd.of_below q7),zD ?_⟩;refine zB (i:=12) rfl rfl ?_;simp only[yAp,yAj,yAi];obtain⟨h',n6⟩:∃h':Hd,h'=⟨q,s.h.D,s.h.L,s.h.G,z,fb,fs⟩:=⟨_,rfl⟩;have u2:=zz n6;refine zC (g:=hc h') rfl 122 (.tmp 19) (.tmp 172) rfl rfl (by rw[n6];rfl) (Row.box wg 7 (hc hd0) 122) a95 (fun i hi=>zBL _ i hi) ?_;intro D3 k5 t7 t4 k4;simp only[Act.put,ya,ye,yd];refine wpList_nil ?_;have a9:=Below.upd q7 k5 (fun _ h=>h▸yb _) zs;refine⟨i7.o _ (Upd.of_below a9),zF ?_⟩;refine zV ?_;have a3:=zz (i0.o.later a9);have p3:=zz (g3.o.upd (Upd.of_below a9) fun _ h=>h.elim);have k8:=zz (p9.o.trans (Upd.of_below a9) fun _ h _=>h.elim);have y9:=zz k4;have B8:=zz a3.o.dsk.arc.top;clear q7 k5 t7 t4 k4 a9 i7 n6 b9;go_upto_region 30 with(first | (refine zL rfl 122 (.tmp 19) rfl rfl y9.o.rd underlying122 rfl a95 ?_;simp only[Act.put,ya,ye,yd]) | (refine zAP (k:=3) (n:=7) (N:=13) (g:=hc h') rfl 122 (.tmp 176) (.tmp 174) rfl rfl rfl B8.o zo a95 (fun i hi=>zBL _ i hi) ?_;intro z9 f7 r4 m3 l0;simp only[Act.put]));have k3:=zz (a3.o.dsk.arc.jk (h':=h') f7 m3 l0);have v5:=zz f7;have f0:h'.ok:=by
     have h1:=m7.o.ok;have h2:(fb,fs)∈SP:=by
      rw[l5.o,yg,yx (by rw[c1.o];exact e5)];exact yAo _
     have h3:=h1 _ h2;rw[u2.o];exact⟨q4.o.D,q4.o.L,q4.o.G,by show z<2^32;omega,h3.1,h3.2,m1⟩
    have x7:=zz (zBG z9 m.ar m.cb m.kb m.l A8 m.D m.L m.G m.cv m.β h' A0 A7 .nilIface false k3.o f0);clear f7 m3 l0 r4 f0;go_upto_region 31 with(go_at_call 66;refine x7.o.mono ?_;rintro e n1 ⟨rfl,l7,d7⟩);have a4:=zz (k3.o.qh d7 (fun b hb=>hb) l7 (zBC _ _ _ _).1 (zBC _ _ _ _).2);have x6:=zz d7;have r0:=a4.o.top.cell 10 zo;have r1:=a4.o.top.cell 11 zo;have r2:=a4.o.top.free 10 zo;have r3:=a4.o.top.free 11 zo;clear l7 d7 x7;go_wp2_with fail;have l3:=((Upd.refl (· =m.ar) n1).qe 10 (.slice a n c)).qe 11 (.slice sb pl sc);have u1:=((zO.refl n1).set ⟨m.ar,10,none⟩ (.slice a n c)).set ⟨m.ar,11,none⟩ (.slice sb pl sc);have k7:=(a4.o.top.set (i:=10) zo (.slice a n c)).set (i:=11) zo (.slice sb pl sc);simp only[yc]at k7;generalize(n1.setCell (m.ar,10) (.slice a n c)).setCell (m.ar,11) (.slice sb pl sc)=wz at *;have s5:=a4.o.jo (h':=h') (ov':=.slice a n c) (lv':=.slice sb pl sc) (bv':=.nilIface) l3 u1 (k7.congr fun i hi=>by
     unfold zHh;by_cases h1:i=11
     ·subst h1;rfl
     ·by_cases h2:i=10
      ·subst h2;rfl
      ·simp only[h1,h2,if_false])
    have A4:A8.n=m.D+m.L+m.G:=a3.o.dsk.arc.n;have j5:=
     ((v5.o.mono (H:=fun c=>m.l.own (m.D+m.L+m.G) c∨c=m.ar) (fun _ _ h=>.inr h)).trans (x6.o.mono (H:=fun c=>m.l.own (m.D+m.L+m.G) c∨c=m.ar) (fun _ _ h=>.inl (by rw[<-A4];exact h))) fun _ h _=>h).trans (l3.mono (H:=fun c=>m.l.own (m.D+m.L+m.G) c∨c=m.ar) (fun _ _ h=>.inr h)) fun _ h _=>h
    have j9:∀{E':List Nat} {c:Nat},(m.l.own (m.D+m.L+m.G) c∨c=m.ar)->eX m E' c:=fun h=>h.elim .inl fun e=>.inr (.inl e);have B9:zJw wz (.slice a n c) l:=⟨a,b,c,K,S,by rw[HN.o],(y7.o.upd k8.o fun b hb=>⟨o9.o.qc zd b hb,o9.o.qc zd b hb⟩).upd j5 fun b hb=>⟨a3.o.qc zd b (j9 hb),a3.o.qc zd b (j9 hb)⟩⟩;have c6:zGT wz (.slice sb pl sc) SP:=⟨_,sb,sc,by rw[c1.o],p3.o.upd j5 fun b hb=>a3.o.qc zd b (j9 hb)⟩;have u0:ArE wz m ⟨annTo false h' A8 (m.D+m.L+m.G),h',l,SP⟩ E8 (.slice a n c) (.slice sb pl sc):=a3.o.jq j5 s5 B9 c6;have r8:=k8.o.trans j5 fun c hc _=>j9 (E':=E) hc;have r6:ArR we m E ⟨annTo false h' A8 (m.D+m.L+m.G),h',l,SP⟩ wz:=⟨E8,_,_,u0,B3.o,r8⟩;have B1:=(Array.getElem?_eq_some_iff.1 HK.o).1;have s7:w0.heap.size≤Dd:=(by have:=b7.o.size;have:=c3.o.size;omega);have t5:=(r8.block Dd zo (j6 Dd s7)).trans ((d0.o.block Dd B1).trans HK.o);have e9:commitD m.D m.L m.G s l=(none,⟨annTo false h' A8 (m.D+m.L+m.G),h',l,SP⟩):=by
     rw[zCX,<-HZ.o,<-l1.o,yl n2.o.2,<-n2.o.1];unfold headTo;rw[<-C6.o,<-C4.o];dsimp only;rw[<-l5.o,u2.o,w9.o,c1.o]
    rw[e9];show LeavesInM _ _ _ _ _ _ (zBQ [Dd]) _ _;refine zAE [Dd] _ zs (fun d hd=>by rw[List.mem_singleton.1 hd];exact t5) (fun w' f1 f2 f3 f4 f5=>?_);have q1:Upd (· =Dd) wz w':=⟨f2,f3,f4,by rw[f1];exact yb _,fun k _ j1=>f5 k (by simpa using j1)⟩;refine⟨zAk none,by simp[results,results62,go_sem,zAk],rfl,?_⟩;exact ArR.mark (ArR.ahead (i8.o.trans (d0.o.mono i8.o.size)) r6) t5 q1 s7
end Go.Proofs.YtonfdlhikinldaaGreatDoor
