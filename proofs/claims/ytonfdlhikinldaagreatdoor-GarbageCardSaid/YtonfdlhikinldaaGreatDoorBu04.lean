import Derived.Test.YtonfdlhikinldaaGreatDoorBu02
import Derived.Test.YtonfdlhikinldaaGreatDoorBu03
set_option maxRecDepth 100000
set_option linter.all false
set_option linter.unusedVariables false
set_option maxHeartbeats 16000000
namespace Go.Proofs.YtonfdlhikinldaaGreatDoor
open Go Go.RowKit Go.Proofs Lin Go.Proofs.Tryz
variable {w w':zw}{hs:Nat->Nat}{here:Nat->Prop}{b t:Nat}{x y:Value}{f:Nat->Nat->Value}{a:Option Addr}{G:Nat->Prop}{k:Nat}
def zCt(w:zw):Prop:=w.cell? ⟨0,0,none⟩=some (.iface 184 (.agg #[.pointer (some ⟨3,42,none⟩)]))
theorem zCt.lt{w:zw}(h:zCt w):0<w.heap.size:=yt _ _ h
theorem zCt.below{b:Nat}(h:zCt w)(J:Below b w w')(u:0<b):zCt w':=(J.cell (p:=⟨0,0,none⟩) u).trans h
theorem zCt.later(h:zCt w)(u:Below w w w'):zCt w':=h.below u h.lt
theorem zCt.alloc{w:zw}(h:zCt w)(o:Obj):zCt (w.alloc o):=Rd.alloc (n:=1) (f:=fun _=>_) (fun i u=>by obtain rfl:i=0:=zo;exact h) o 0 zo
theorem zEZ(w:zw):Calls prog 12 #[.nilIface] w fun e w'=>e=.returned (I 0)∧Below w w w':=by
 go_enter func12,ntmps12;go_wp2_with fail;go_ret;exact⟨rfl,(yh _ _).alloc (yb _) _⟩
theorem zDY(n:Int)(w:zw)(u:zCt w):Calls prog 12 #[.iface 54 (I n)] w fun e w'=>e=.returned (I n)∧Below w w w':=by
 have Z:=zz u;clear u;have h0:(w.alloc (.cells #[I 0] 54)).cell? w=some (I 0):=zs;have O:(w.alloc (.cells #[I 0] 54)).frozen? w=false:=zs;have V:=zz (zS2 n ⟨w.heap.size,0,none⟩ (I 0) (w.alloc (.cells #[I 0] 54)) (Z.o.alloc _) h0 O);have J:=zz ((((((yh w w).alloc (yb _) (.cells #[I n] 54)).alloc zs (.cells #[w] 101)).alloc (by simp;omega) (.cells #[.pointer (some ⟨3,101,none⟩),.pointer (zp (w.heap.size+1)),.int .u64 150] 131)).alloc (by simp;omega) (.cells #[.pointer (some ⟨3,101,none⟩),.pointer (zp (w.heap.size+1)),.int .u64 150] 131)).alloc (by simp;omega) (.cells #[I n] 54));go_enter func12,ntmps12;go_wp2_with (go_at_call 31;refine V.o.mono ?_;rintro e w' ⟨rfl,rfl⟩);go_ret;exact⟨rfl,J.o⟩
structure Stp where
 k:UInt8
 a:Int
 b:Int
 c:UInt8
def sc(s:Stp)(j:Nat):Value:=if j=0 then B s.k else if j=1 then I s.a else if j=2 then I s.b else B s.c
def rc(s:Stp)(j:Nat):Value:=if j=0 then I (s.k.toNat:Int)else if j=1 then I s.a else if j=2 then I s.b else B s.c
def el4(f:Nat->Nat->Value):Nat->Value:=fun i=>f (i / 4) (i % 4)
theorem zJp(f:Nat->Nat->Value)(k j:Nat)(u:j<4):el4 f (k*4+j)=f k j:=by
 unfold el4;rw[show(k*4+j) / 4=k by omega,show(k*4+j) % 4=j by omega]
def zAj(J u:Int)(s:Stp):Prop:=
 0≤s.a∧s.a<J∧((s.k.toNat=0∨s.k.toNat=2)∧0≤s.b∧s.b<u∨s.k.toNat=1∧0≤s.b∧s.b<J∧s.a≠s.b)
def OkP(u:Int)(n:Nat)(S:Nat->Stp)(J:Int):Prop:=0≤u∧u≤32∧n≤2000∧∀i,i<n->zAj u J (S i)
def zT6(J:Int)(k:Nat)(S:Nat->Stp)(u:Int):Prop:=∀i,i<k->zAj J u (S i)
theorem zT6.next{J u:Int}{S:Nat->Stp}(h:zT6 J k S u)(h':zAj J u (S k)):zT6 J (k+1) S u:=fun i O=>by
 by_cases e:i=k
 ·exact e▸h'
 ·exact h i zo
structure At4 (w:zw) (b o k:Nat) (f:Nat->Value):Prop where
 c0:w.cell? (b,o+k*4)=some (f 0)
 c1:w.cell? (b,o+k*4+1)=some (f 1)
 c2:w.cell? (b,o+k*4+2)=some (f 2)
 c3:w.cell? (b,o+k*4+3)=some (f 3)
theorem Rd.ke{w:zw}{b o n k:Nat}(h:Rd w b o (n*4) (el4 f))(hk:k<n):At4 w b o k (f k):=
 ⟨by have:=h (k*4+0) zo;rw[zJp _ _ _ zo]at this;exact this,by have:=h (k*4+1) zo;rw[zJp _ _ _ zo]at this;exact this,
  by have:=h (k*4+2) zo;rw[zJp _ _ _ zo]at this;exact this,by have:=h (k*4+3) zo;rw[zJp _ _ _ zo]at this;exact this⟩
structure zM5 (w:zw) (a:Option Addr) (b o n c:Nat) (f:Nat->Nat->Value):Prop where
 addr:0<n->a=some ⟨b,o,none⟩
 rd:Rd w b o (n*4) (el4 f)
 cap:n≤c
 max:c≤9223372036854775807
theorem zM5.later{b o n c:Nat}(h:zM5 w a b o n c f)(u:Below w w w'):zM5 w' a b o n c f:=⟨h.addr,h.rd.later u,h.cap,h.max⟩
theorem zM5.upd{b o n c:Nat}(h:zM5 w a b o n c f)(u:Upd G w w')(J:0<n->¬G b):zM5 w' a b o n c f:=
 ⟨h.addr,h.rd.upd u (fun O=>J zo),h.cap,h.max⟩
theorem zDo{a b:Int}(h:a≠b):(a==b)=false:=by simpa using h
theorem zKk{a b:Int}(h:a=b):(a==b)=true:=by simpa using h
theorem zO7{a b:Int}(h:a=b):(a !=b)=false:=by simpa using h
theorem zSi{a b:Int}(h:a≠b):(a !=b)=true:=by simpa using h
def inB(x n:Int):Bool:=decide (0≤x∧x<n)
theorem zMu{x n:Int}(h:inB x n=true):0≤x∧x<n:=by simpa[inB]using h
theorem zMv{x n:Int}(h:inB x n=false):¬(0≤x∧x<n):=by simpa[inB]using h
theorem zDQ(x n:Int)(w:zw):Calls prog 146 #[I x,I n] w fun e w'=>e=.returned (.bool (inB x n))∧w=w':=by
 by_cases h:0≤x;{by_cases h':x<n;{have u:=zy (inB x n=true) (by unfold inB;simp;omega);go_enter func146,ntmps146;go_wp2_with fail;go_ret;exact⟨by rw[u.o];simp,rfl⟩};{have u:=zy (inB x n=false) (by unfold inB;simp;omega);go_enter func146,ntmps146;go_wp2_with fail;go_ret;exact⟨by rw[u.o];simp,rfl⟩}};{have u:=zy (inB x n=false) (by unfold inB;simp;omega);have J:decide (0≤x)=false:=(by simpa using h);go_enter func146,ntmps146;go_wp2_with fail;go_ret;exact⟨by rw[u.o];rfl,rfl⟩}
def zSj(P:Prop)(w:zw)(e:Ending)(w':zw):Prop:=(P∧e=.returned .nilIface∨¬P∧e=.returned (.iface 54 (I 4)))∧Below w w w'
theorem zO8(a:Option Addr)(b o n c:Nat)(S:Nat->Stp)(u J:Int)(w:zw)(h:zM5 w a b o n c fun i=>sc (S i)):
  Calls prog 133 #[.agg #[I u,.slice a n c],I J] w (zSj (OkP u n S J) w):=by
 have HS:=zz h;have a8:=h.cap;have a7:=h.max;clear h;have HB:=zz ((yh w w).alloc (yb _) (.cells #[I u,.slice a n c] 116));by_cases h1:u<0;{go_enter func133,ntmps133;go_wp2_with fail;go_ret;exact⟨.inr ⟨fun h=>by have:=h.1;omega,rfl⟩,HB.o⟩};by_cases h2:32<u;{go_enter func133,ntmps133;go_wp2_with fail;go_ret;exact⟨.inr ⟨fun h=>by have:=h.2.1;omega,rfl⟩,HB.o⟩};by_cases h3:2000<n;{go_enter func133,ntmps133;go_wp2_with fail;go_ret;exact⟨.inr ⟨fun h=>by have:=h.2.2.1;omega,rfl⟩,HB.o⟩};go_enter func133,ntmps133;go_wp2_with fail;go_loopg [27] n (fun g i wr=>∃k:Nat,g=n - k∧k≤n∧i=I k∧Below w w wr∧Below (w.heap.size+1) (w.alloc (.cells #[I u,.slice a n c] 116)) wr∧zT6 u k S J);(case atStart=>exact⟨0,rfl,zo,rfl,HB.o,yh _ _,fun i hi=>absurd hi zo⟩)
 case round=>
  obtain⟨k,rfl,hk,rfl,hb,a6,ho⟩:=hrel;have a0:=zz hb;have a4:=zz a6;have HO:=zz ho;clear hb a6 ho;by_cases a5:k<n
  ·obtain rfl:=HS.o.addr zo;have V:=(HS.o.later a0.o).rd.ke a5;have p0:wr.cell? w=some (I u):=(a4.o.cell (p:=w) zs).trans zs;have a9:w.heap.size<wr.heap.size:=(by have:=a4.o.size;rw[Deep.nblk_alloc]at this;omega);obtain⟨s,hs⟩:=zx (S k);rw[<-hs]at V;have a3:=zz hs;have c0:wr.cell? (b,o+k*4)=some (B s.k):=V.c0;have c1:wr.cell? (b,o+k*4+1)=some (I s.a):=V.c1;have c2:wr.cell? (b,o+k*4+2)=some (I s.b):=V.c2;have c3:wr.cell? (b,o+k*4+3)=some (B s.c):=V.c3;clear hs V;have HN:=zz ((a0.o.alloc a0.o.size (.cells #[B s.k,I s.a,I s.b,B s.c] 249)));have a1:=zz ((a4.o.alloc zo (.cells #[B s.k,I s.a,I s.b,B s.c] 249)));have HY:=zz (fun h:zAj u J s=>HO.o.next (a3.o▸h));have HX:=zz (fun h:¬zAj u J s=>(show ¬OkP u n S J from fun h'=>h (a3.o▸h'.2.2.2 k a5)));clear HO a3;rcases(show s.k.toNat=0∨s.k.toNat=1∨s.k.toNat=2∨2<s.k.toNat by omega)with e | e | e | e
   ·have t0:=zKk (a:=(s.k.toNat:Int)) (b:=0) zo;have O:=zz e;clear e
    cases ha:inB s.a u with
    | false=>
     have HA:=zz ha;go_wp2_with (go_at_call 146;refine(zDQ _ _ _).mono ?_;rintro e w1 ⟨rfl,rfl⟩)
     (go_ret;exact⟨.inr ⟨HX.o fun h=>by have h0:=O.o;have h1:=zMv HA.o;unfold zAj at h;omega,rfl⟩,HN.o⟩)
    | true=>
     have HA:=zz ha
     cases hc:inB s.b J with
     | false=>
      have HC:=zz hc;go_wp2_with (go_at_call 146;refine(zDQ _ _ _).mono ?_;rintro e w1 ⟨rfl,rfl⟩)
      (go_ret;exact⟨.inr ⟨HX.o fun h=>by have h0:=O.o;have h1:=zMv HC.o;unfold zAj at h;omega,rfl⟩,HN.o⟩)
     | true=>
      have HC:=zz hc;go_wp2_with (go_at_call 146;refine(zDQ _ _ _).mono ?_;rintro e w1 ⟨rfl,rfl⟩)
      (go_roundg (n - (k+1));(case measure=>omega);(case rel=>exact⟨k+1,rfl,zo,by go_num,HN.o,a1.o,HY.o (by have h0:=O.o;have h1:=zMu HA.o;have h2:=zMu HC.o;unfold zAj;omega)⟩))
   ·have t0:=zDo (a:=(s.k.toNat:Int)) (b:=0) zo;have t2:=zDo (a:=(s.k.toNat:Int)) (b:=2) zo;have t1:=zKk (a:=(s.k.toNat:Int)) (b:=1) zo;have O:=zz e;clear e
    cases ha:inB s.a u with
    | false=>
     have HA:=zz ha;go_wp2_with (go_at_call 146;refine(zDQ _ _ _).mono ?_;rintro e w1 ⟨rfl,rfl⟩)
     (go_ret;exact⟨.inr ⟨HX.o fun h=>by have h0:=O.o;have h1:=zMv HA.o;unfold zAj at h;omega,rfl⟩,HN.o⟩)
    | true=>
     have HA:=zz ha
     cases hc:inB s.b u with
     | false=>
      have HC:=zz hc;go_wp2_with (go_at_call 146;refine(zDQ _ _ _).mono ?_;rintro e w1 ⟨rfl,rfl⟩)
      (go_ret;exact⟨.inr ⟨HX.o fun h=>by have h0:=O.o;have h1:=zMv HC.o;unfold zAj at h;omega,rfl⟩,HN.o⟩)
     | true=>
      have HC:=zz hc;by_cases Z:s.a=s.b
      ·have t3:=zO7 Z;have a2:=zz Z;clear Z;go_wp2_with (go_at_call 146;refine(zDQ _ _ _).mono ?_;rintro e w1 ⟨rfl,rfl⟩)
       (go_ret;exact⟨.inr ⟨HX.o fun h=>by have h0:=O.o;have h1:=a2.o;unfold zAj at h;omega,rfl⟩,HN.o⟩)
      ·have t3:=zSi Z;have a2:=zz Z;clear Z;go_wp2_with (go_at_call 146;refine(zDQ _ _ _).mono ?_;rintro e w1 ⟨rfl,rfl⟩)
       (go_roundg (n - (k+1));(case measure=>omega);(case rel=>exact⟨k+1,rfl,zo,by go_num,HN.o,a1.o,HY.o (by have h0:=O.o;have h1:=zMu HA.o;have h2:=zMu HC.o;have h3:=a2.o;unfold zAj;omega)⟩))
   ·have t0:=zDo (a:=(s.k.toNat:Int)) (b:=0) zo;have t2:=zKk (a:=(s.k.toNat:Int)) (b:=2) zo;have O:=zz e;clear e
    cases ha:inB s.a u with
    | false=>
     have HA:=zz ha;go_wp2_with (go_at_call 146;refine(zDQ _ _ _).mono ?_;rintro e w1 ⟨rfl,rfl⟩)
     (go_ret;exact⟨.inr ⟨HX.o fun h=>by have h0:=O.o;have h1:=zMv HA.o;unfold zAj at h;omega,rfl⟩,HN.o⟩)
    | true=>
     have HA:=zz ha
     cases hc:inB s.b J with
     | false=>
      have HC:=zz hc;go_wp2_with (go_at_call 146;refine(zDQ _ _ _).mono ?_;rintro e w1 ⟨rfl,rfl⟩)
      (go_ret;exact⟨.inr ⟨HX.o fun h=>by have h0:=O.o;have h1:=zMv HC.o;unfold zAj at h;omega,rfl⟩,HN.o⟩)
     | true=>
      have HC:=zz hc;go_wp2_with (go_at_call 146;refine(zDQ _ _ _).mono ?_;rintro e w1 ⟨rfl,rfl⟩)
      (go_roundg (n - (k+1));(case measure=>omega);(case rel=>exact⟨k+1,rfl,zo,by go_num,HN.o,a1.o,HY.o (by have h0:=O.o;have h1:=zMu HA.o;have h2:=zMu HC.o;unfold zAj;omega)⟩))
   ·have t0:=zDo (a:=(s.k.toNat:Int)) (b:=0) zo;have t2:=zDo (a:=(s.k.toNat:Int)) (b:=2) zo;have t1:=zDo (a:=(s.k.toNat:Int)) (b:=1) zo;have O:=zz e;clear e;go_wp2_with (go_at_call 146;refine(zDQ _ _ _).mono ?_;rintro e w1 ⟨rfl,rfl⟩)
    (go_ret;exact⟨.inr ⟨HX.o fun h=>by have h0:=O.o;have h1:=True.intro;unfold zAj at h;omega,rfl⟩,HN.o⟩)
  {obtain rfl:n=k:=zo;go_wp2_with fail;go_ret;exact⟨.inl ⟨⟨h1,h2,zo,HO.o⟩,rfl⟩,a0.o⟩}
def V4(w:zw)(base e:Nat)(v:Value)(n:Nat)(f:Nat->Nat->Value):Prop:=w.ownsRow base e 4 v n ((List.range (n*4)).map (el4 f))
section
variable {w w':zw} {base e n:Nat} {v:Value} {f g:Nat->Nat->Value}
theorem V4.nil(w:zw)(base e:Nat)(f:Nat->Nat->Value):V4 w base e (.slice none 0 0) 0 f:=World.ownsRow_nil w base e 4
theorem V4.lt(h:V4 w base e v n f):∀k,v.ownBlock=some k->base≤k∧k<w.heap.size:=World.ownsRow.lt h
theorem V4.congr(h:V4 w base e v n f)(u:∀i,i<n->∀j,j<4->f i j=g i j):V4 w base e v n g:=by
 unfold V4 at *;rwa[show(List.range (n*4)).map (el4 g)=(List.range (n*4)).map (el4 f)from yY fun i J=>by have:i<n*4:=(by simpa using J);exact(u (i / 4) zo (i % 4) zo).symm]
theorem V4.kept(h:V4 w base e v n f)(Z:Upd G w w')(O:∀k,v.ownBlock=some k->¬G k):V4 w' base e v n f:=by
 refine⟨h.1,?_⟩;rcases h.2 with hn | ⟨g,J,u,rfl,hb,V,rest⟩;{exact .inl hn};{exact .inr ⟨g,J,u,rfl,hb,by rw[Z.block g (Array.getElem?_eq_some_iff.1 V).1 (O g rfl)];exact V,rest⟩}
theorem V4.alloc(h:V4 w base e v n f)(o:Obj):V4 (w.alloc o) base e v n f:=World.ownsRow.alloc h o
theorem V4.later(h:V4 w base e v n f)(u:Below w w w'):V4 w' base e v n f:=h.kept (Upd.of_below u) (fun _ _=>id)
theorem V4.qa(h:V4 w base e v n f)(hk:Kd w b t)(J:t≠e):∀k,v.ownBlock=some k->k≠b:=by
 intro k hv;rcases h.2 with⟨rfl,_⟩ | ⟨g,O,u,rfl,_,V,_⟩;{simp[Value.ownBlock]at hv};{simp[Value.ownBlock]at hv;subst hv;exact(Kd.ne hk ⟨u,V⟩ J).symm}
theorem V4.shape(h:V4 w base e v n f):∃a b c,v=.slice a n c∧zM5 w a b 0 n c f∧(∀k,v.ownBlock=some k->k=b)∧(0<n->base≤b):=by
 obtain⟨hl,h⟩:=h;rcases h with⟨rfl,rfl⟩ | ⟨g,J,u,rfl,hb,hg,O,Z,hs,ht⟩;{exact⟨none,0,0,rfl,⟨fun h=>absurd h zo,Rd.empty _ _ _ _,yb _,zo⟩,by simp[Value.ownBlock],fun h=>absurd h zo⟩};{refine⟨_,g,J,rfl,⟨fun _=>rfl,fun i hi=>?_,O,by unfold maxLen at Z;omega⟩,by simp[Value.ownBlock],fun _=>hb⟩;simp only[World.cell?,hg,yc];have:u.toList[i]? =some (el4 f i):=(by have V:(u.toList.take (n*4))[i]? =((List.range (n*4)).map (el4 f))[i]? :=(by rw[ht]);rw[yAu,yq zo]at V;rw[V];simp[hi]);simpa using this}
end
theorem zHR(w:zw)(c:Array Value)(t j:Nat):(w.alloc (.cells c t)).frozen? (w,j)=false:=by
 unfold World.frozen?;rw[Deep.blk_alloc_new];simp
section
variable {P:Program}
theorem zBS{w:zw}{a2:Array Oper}{rest:List Oper}{o:Oper}{a:Act}{Q:Exit->Act->World->Prop}(a8:o.guard=none)(s x:Operand)(t:TypeId)
  (ho:o.op=.call {callee:=.builtin .append,args:=#[s,x],argTypes:=#[t,t]})
  (base:Nat)(e:TypeId)(z:Value)(J:Nat)(ht:P.underlying t=some (.slice e))(V:(P.info? e).map (fun i=>(i.zero,i.size,i.bytes))=some (some z,4,J))(a5:z.cells.size=4)
  (v:Value)(n:Nat)(f:Nat->Nat->Value)(hs:a.eval s=v)(a0:V4 w base e v n f)(u:Nat->Value)(tu:TypeId)(hx:a.eval x=.slice w 1 1)(h1:∀j,j<4->(u j).oneCell'=true)
  (a4:n+1≤1099511627776)(a6:J≤64)(a3:base≤w.heap.size)
  (h:∀v' w',V4 w' base e v' (n+1) (fun i=>if i<n then f i else u)->Upd (fun b=>some b=v.ownBlock) w w'->wpList P a2 Q rest (a.put o.dst v') w'):wpList P a2 Q (o::rest) a (w.alloc (.cells #[u 0,u 1,u 2,u 3] tu)):=by
 obtain⟨i,hi,hz,a7,hb⟩:=info_parts V;refine wpList_append_own _ a8 s x t ho base e i z 4 J ht hi hz a7 hb a5 zd v n _ hs (a0.alloc _) ⟨w.heap.size,0,none⟩ 1 1 [u 0,u 1,u 2,u 3] hx rfl ?_ ?_ (by unfold maxLen;omega) ?_ (by rw[Deep.nblk_alloc];omega) ?_
 ·intro j v O
  match j,O with
  | 0,O=>simp at O;subst O;rw[zBB,zBO];simp
  | 1,O=>simp at O;subst O;rw[zBB,zBO];simp
  | 2,O=>simp at O;subst O;rw[zBB,zBO];simp
  | 3,O=>simp at O;subst O;rw[zBB,zBO];simp
  | j+4,O=>simp at O
 {intro v hv;simp at hv;rcases hv with rfl | rfl | rfl | rfl<;>exact h1 _ zo}
 ·calc (n+1)*J≤1099511627776*64:=yAJ a4 a6
   _≤_:=zo
 {intro v' w' hv hg _;have Z:(List.range ((n+1)*4)).map (el4 fun i=>if i<n then f i else u)=(List.range (n*4)).map (el4 f)++[u 0,u 1,u 2,u 3]:=(by rw[show(n+1)*4=n*4+4 by omega,List.range_add,yP];congr 1;{refine yY fun i hi=>?_;have:i<n*4:=(by simpa using hi);show(if i / 4<n then f (i / 4)else u) (i % 4)=f (i / 4) (i % 4);rw[yq zo]};{have a1:∀j,j<4->el4 (fun i=>if i<n then f i else u) (n*4+j)=u j:=fun j O=>(by rw[zJp _ _ _ O,yl zo]);simp[List.range_succ,a1];have:=a1 0 zo;simpa using this});refine h v' w' (by unfold V4;rw[Z];exact hv) ?_;exact((Upd.refl _ w).alloc _).trans (Upd.of_grown hg) fun b hb _=>hb}
end
structure zC3 (w:zw) (b t:Nat) (x y:Value):Prop where
 c0:w.cell? b=some x
 c1:w.cell? (b,1)=some y
 f0:w.frozen? b=false
 f1:w.frozen? (b,1)=false
 kd:Kd w b t
theorem zC3.new(w:zw)(t:Nat)(x y:Value):zC3 (w.alloc (.cells #[x,y] t)) w t x y:=
 ⟨by rw[zBO];rfl,by rw[zBO];rfl,zHR _ _ _ _,zHR _ _ _ _,Kd.new _ _ _⟩
theorem zC3.of_block(h:zC3 w b t x y)(e:w'.heap[b]? =w.heap[b]?):zC3 w' b t x y:=
 ⟨(yk (a:=b) e).trans h.c0,(yk (a:=⟨b,1,none⟩) e).trans h.c1,(World.frozen?_of_block (a:=b) e).trans h.f0,(World.frozen?_of_block (a:=⟨b,1,none⟩) e).trans h.f1,h.kd.of_block e⟩
theorem zC3.upd(h:zC3 w b t x y)(u:Upd G w w')(J:¬G b):zC3 w' b t x y:=h.of_block (u.block b h.kd.lt J)
theorem zC3.later(h:zC3 w b t x y)(u:Below w w w'):zC3 w' b t x y:=h.of_block (u.block b h.kd.lt)
theorem zC3.alloc{w:zw}(h:zC3 w b t x y)(o:Obj):zC3 (w.alloc o) b t x y:=h.of_block (Deep.blk_alloc_lt _ _ _ h.kd.lt)
theorem zC3.ja{w:zw}(h:zC3 w b t x y)(v:Value):zC3 (w.setCell (b,1) v) b t x v:=
 ⟨by rw[zCJ zo];exact h.c0,zAA h.c1 v,by rw[zBv];exact h.f0,by rw[zBv];exact h.f1,h.kd.set _ _⟩
def zAC(S:Nat->Stp)(hs:Nat->Nat):Nat->Int
 | 0=>-1
 | k+1=>if(S k).k.toNat=0∧zAC S hs k<0 then(hs (S k).b.toNat:Int)else zAC S hs k
theorem zJg(S:Nat->Stp)(hs:Nat->Nat):∀k,-1≤zAC S hs k
 | 0=>by simp[zAC]
 | k+1=>by unfold zAC;split;omega;exact zJg S hs k
def zBt(S:Nat->Stp)(here:Nat->Prop)(hs:Nat->Nat)(k:Nat):Prop:=
 ∀i,i<k->(S i).k.toNat=0->here (S i).b.toNat∧(hs (S i).b.toNat:Int)=zAC S hs (i+1)∧zAC S hs (i+1)≤4096
theorem zBt.next{S:Nat->Stp}(h:zBt S here hs k)(h':(S k).k.toNat=0->here (S k).b.toNat∧(hs (S k).b.toNat:Int)=zAC S hs (k+1)∧zAC S hs (k+1)≤4096):zBt S here hs (k+1):=fun i u=>by
 by_cases e:i=k
 ·subst e;exact h'
 ·exact h i zo
theorem zBt.le{S:Nat->Stp}{k n:Nat}(h:zBt S here hs n)(hk:k≤n):zBt S here hs k:=fun i u=>h i zo
theorem zEt{S:Nat->Stp}:∀{k:Nat},zBt S here hs k->zAC S hs k≤4096
 | 0,_=>by simp[zAC]
 | k+1,h=>by
  by_cases e:(S k).k.toNat=0
  ·exact(h k zo e).2.2
  ·unfold zAC;rw[yl zo];exact zEt (h.le zo)
theorem zDP{S:Nat->Stp}(h:0≤zAC S hs k):∀{n:Nat},k≤n->zAC S hs n=zAC S hs k
 | 0,hk=>by rw[show k=0 by omega]
 | n+1,hk=>by
  by_cases e:k=n+1
  ·rw[e]
  ·have u:=zDP h (n:=n) zo;rw[zAC,yl zo,u]
theorem zQi{S:Nat->Stp}{n i:Nat}(h:zBt S here hs n)(u:i<n)(hk:(S i).k.toNat=0):(hs (S i).b.toNat:Int)=max (zAC S hs n) 0:=by
 have O:=(h i u hk).2.1;have J:=zDP (S:=S) (hs:=hs) (k:=i+1) zo (show i+1≤n from u);omega
def zQj(w:zw)(n:Nat)(S:Nat->Stp)(here:Nat->Prop)(hs:Nat->Nat)(e:Ending)(w':zw):Prop:=
 (zBt S here hs n∧e=.returned (.tuple #[I (max (zAC S hs n) 0),.nilIface])∨¬zBt S here hs n∧e=.returned (.tuple #[I 0,.iface 54 (I 2)]))∧Below w w w'
structure Shs (w:zw) (a:Option Addr) (b o m c:Nat) (T:Nat->Sl):Prop where
 addr:0<m->a=some ⟨b,o,none⟩
 o:Rd w b o m (fun i=>(T i).v)
 ok:∀i,i<m->(T i).a≠none->(T i).a=some ⟨(T i).b,(T i).o,none⟩∧Rd w (T i).b (T i).o (T i).n (bs (T i).x)
 nil:∀i,i<m->(T i).n≤100000
 cap:m≤c
 max:c≤9223372036854775807
theorem Shs.later{b o m c:Nat}{T:Nat->Sl}(h:Shs w a b o m c T)(J:Below w w w'):Shs w' a b o m c T:=
 ⟨h.addr,h.o.later J,fun i O u=>⟨(h.ok i O u).1,(h.ok i O u).2.later J⟩,h.nil,h.cap,h.max⟩
def zIH(T:Nat->Sl)(j:Nat):Prop:=(T j).a≠none
def zEu(T:Nat->Sl)(j:Nat):Nat:=(T j).n
theorem zUo(a:Option Addr)(n c:Nat)(w:zw):(binOp .eql 31 (.slice a n c) (.slice none 0 0)).run prog w=.ok (.bool a.isNone) w:=
 Lib.run_eql_slice_nil w 31 5 a n c 0 0 underlying31
structure zU3 (w:zw) (b:Nat) (x y z u:Value):Prop where
 c0:w.cell? b=some x
 c1:w.cell? (b,1)=some y
 c2:w.cell? (b,2)=some z
 c3:w.cell? (b,3)=some u
theorem Row.kh(w:zw)(x y z u:Value)(t:TypeId):zU3 (w.alloc (.cells #[x,y,z,u] t)) w x y z u:=
 ⟨by rw[zBO];rfl,by rw[zBO];rfl,by rw[zBO];rfl,by rw[zBO];rfl⟩
theorem Vc.qk{w:zw}{base u e n:Nat}{v:Value}{f:Nat->Value}(h:Vc w base e v n f)(V:u≤base):Vc w u e v n f:=by
 refine⟨h.1,?_⟩;rcases h.2 with hn | ⟨g,J,O,rfl,Z,rest⟩;{exact .inl hn};{exact .inr ⟨g,J,O,rfl,yC V Z,rest⟩}
theorem zMn(a a':Option Addr)(b b' o o' n m c c':Nat)(S:Nat->Stp)(T:Nat->Sl)(a2:Int)(w:zw)(h:zM5 w a b o n c fun i=>sc (S i))(hT:Shs w a' b' o' m c' T)(b3:zT6 a2 n S (m:Int)):
  Calls prog 134 #[.agg #[I a2,.slice a n c],.slice a' m c'] w (zQj w n S (zIH T) (zEu T)):=by
 have HS:=zz h;have HT:=zz hT;have HO:=zz b3;have c6:=h.cap;have c5:=h.max;have d5:=hT.cap;have c7:=hT.max;clear h hT b3;have c4:=fun(a:Option Addr) (n c:Nat) (w:zw)=>zUo a n c w;have HB:=zz ((yh w w).alloc (yb _) (.cells #[I a2,.slice a n c] 116));go_enter func134,ntmps134;go_wp2_with fail;go_loopg [6,13] n (fun g v i wr=>∃k:Nat,g=n - k∧k≤n∧i=I k∧v=I (zAC S (zEu T) k)∧Below w w wr∧zBt S (zIH T) (zEu T) k);(case atStart=>exact⟨0,rfl,zo,rfl,rfl,HB.o,fun i hi=>absurd hi zo⟩);(case round=>obtain⟨k,rfl,hk,rfl,rfl,hb,hl⟩:=hrel;have Z:=zz hb;have HL:=zz hl;have b5:=hb.size;have d6:=zJg S (zEu T) k;have c9:=zEt hl;clear hb hl;by_cases a6:k<n;{obtain rfl:=HS.o.addr zo;have O:=(HS.o.later Z.o).rd.ke a6;have a8:=HO.o k a6;have u:=zz (fun(h:zBt S (zIH T) (zEu T) n)=>h k a6);have b1:=zz (fun(h:¬((S k).k.toNat=0∧zAC S (zEu T) k<0))=>(show zAC S (zEu T) (k+1)=zAC S (zEu T) k by rw[zAC,yl h]));have a7:=zz (fun(h:(S k).k.toNat=0∧zAC S (zEu T) k<0)=>(show zAC S (zEu T) (k+1)=(zEu T (S k).b.toNat:Int)by rw[zAC,yq h]));obtain⟨s,hs⟩:=zx (S k);rw[<-hs]at O a8 u b1 a7;have c0:wr.cell? (b,o+k*4)=some (B s.k):=O.c0;have c1:wr.cell? (b,o+k*4+1)=some (I s.a):=O.c1;have c3:wr.cell? (b,o+k*4+3)=some (B s.c):=O.c3;have c2:wr.cell? (b,o+k*4+2)=some (I s.b):=O.c2;have d4:=zz hs;have J:=zz (fun h=>HL.o.next (hs▸h));clear hs O;have HN:=zz (Z.o.alloc b5 (.cells #[B s.k,I s.a,I s.b,B s.c] 249));by_cases k0:s.k.toNat=0;(case neg=>have t1:=zSi (a:=(s.k.toNat:Int)) (b:=0) zo;have HE:=zz (b1.o fun h=>k0 h.1);have HY:=zz (J.o fun h=>absurd h k0);clear k0;go_wp2_with fail;go_roundg (n - (k+1));(case measure=>omega);(case rel=>exact⟨k+1,rfl,zo,by go_num,by rw[HE.o],HN.o,HY.o⟩));have t1:=zO7 (a:=(s.k.toNat:Int)) (b:=0) zo;have a1:=zz k0;have b7:0≤s.b∧s.b<(m:Int):=(by unfold zAj at a8;omega);obtain⟨j,hj⟩:∃j:Nat,s.b=(j:Int):=⟨s.b.toNat,zo⟩;have b6:j<m:=zo;have a5:s.b.toNat=j:=zo;rw[a5]at u a7 J;have d2:=zz hj;rw[hj]at c2;have HN:=zz (Z.o.alloc b5 (.cells #[B s.k,I s.a,I (j:Int),B s.c] 249));clear k0 a8 b7 hj a5;obtain rfl:=HT.o.addr zo;have b2:=HT.o.later Z.o;have d0:wr.cell? (b',o'+j)=some (.slice (T j).a (T j).n (T j).c):=b2.o j b6;have d3:=HT.o.nil j b6;have d1:b'<wr.heap.size:=yt _ _ d0;clear b2;have a4:=zy (zEu T j=(T j).n) rfl;have a3:=zy (zIH T j↔(T j).a≠none) Iff.rfl;generalize(T j).n=nj at *;generalize(T j).c=cj at *;by_cases hF:zAC S (zEu T) k<0;{have b9:=yG hF;have HE:=zz (a7.o ⟨a1.o,hF⟩);rw[a4.o]at HE;(cases V:(T j).a with |none=>(have HA:=zz V;rw[V]at d0;clear V;go_wp2_with fail;go_ret2;exact⟨.inr ⟨fun h=>(a3.o.1 (u.o h a1.o).1) HA.o,rfl⟩,HN.o⟩)|some x=>(have HA:=zz V;rw[V]at d0;clear V;have b4:((nj:Int) !=nj)=false:=zs;by_cases h4:4096<nj;{go_wp2_with fail;go_ret2;exact⟨.inr ⟨fun h=>by have h1:=(u.o h a1.o).2.2;rw[HE.o]at h1;omega,rfl⟩,HN.o⟩};{have a9:=zz (a3.o.2 (by rw[HA.o];exact fun h=>by cases h));go_wp2_with fail;go_roundg (n - (k+1));(case measure=>omega);(case rel=>exact⟨k+1,rfl,zo,by go_num,by rw[HE.o],HN.o,J.o fun _=>⟨a9.o,by rw[HE.o,a4.o],by rw[HE.o];omega⟩⟩)}))};{have b9:=yA hF;have HE:=zz (b1.o fun h=>hF h.2);(cases V:(T j).a with |none=>(have HA:=zz V;rw[V]at d0;clear V;go_wp2_with fail;go_ret2;exact⟨.inr ⟨fun h=>(a3.o.1 (u.o h a1.o).1) HA.o,rfl⟩,HN.o⟩)|some x=>(have HA:=zz V;rw[V]at d0;clear V;by_cases a0:(nj:Int)=zAC S (zEu T) k;{have b4:=zO7 a0;have HQ:=zz a0;clear a0;have a9:=zz (a3.o.2 (by rw[HA.o];exact fun h=>by cases h));go_wp2_with fail;go_roundg (n - (k+1));(case measure=>omega);(case rel=>exact⟨k+1,rfl,zo,by go_num,by rw[HE.o],HN.o,J.o fun _=>⟨a9.o,by rw[HE.o,a4.o,HQ.o],by rw[HE.o];omega⟩⟩)};{have b4:=zSi a0;have HQ:=zz a0;clear a0;go_wp2_with fail;go_ret2;exact⟨.inr ⟨fun h=>by have h1:=(u.o h a1.o).2.1;rw[HE.o,a4.o]at h1;exact HQ.o h1,rfl⟩,HN.o⟩}))}};{obtain rfl:n=k:=zo;by_cases hF:zAC S (zEu T) n<0;{have b0:=zy (max (zAC S (zEu T) n) 0=0) (by omega);go_wp2_with fail;go_ret2;exact⟨.inl ⟨HL.o,by rw[b0.o];first | rfl | (simp;done) | (simp;omega)⟩,Z.o⟩};{have b0:=zy (max (zAC S (zEu T) n) 0=zAC S (zEu T) n) (by omega);go_wp2_with fail;go_ret2;exact⟨.inl ⟨HL.o,by rw[b0.o];first | rfl | (simp;done) | (simp;omega)⟩,Z.o⟩}})
end Go.Proofs.YtonfdlhikinldaaGreatDoor
