import Derived.Test.YtonfdlhikinldaaGreatDoorBu37
import Derived.Lib.Strings
import Derived.Lib.Slices
import Derived.Lib.Walk
import Derived.Lib.Bytealg
import Derived.Test.YtonfdlhikinldaaGreatDoorBu10
set_option maxRecDepth 100000
set_option linter.all false
set_option linter.unusedVariables false
set_option maxHeartbeats 16000000
namespace Go.Proofs.YtonfdlhikinldaaGreatDoor
open Go Go.RowKit Go.Proofs Lin Go.Proofs.Tryz
variable {L:List Ob}{a b c:ByteArray}
theorem zNO:∀a:List UInt8,Lib.compareBytes a a=0
 | []=>rfl
 | x::a=>by unfold Lib.compareBytes;rw[yl (UInt8.lt_irrefl x),yl (UInt8.lt_irrefl x)];exact zNO a
theorem zPh:∀a b:List UInt8,Lib.compareBytes a b=-1∨Lib.compareBytes a b=0∨Lib.compareBytes a b=1
 | [],[]=>.inr (.inl rfl)
 | [],_::_=>.inl rfl
 | _::_,[]=>.inr (.inr rfl)
 | x::a,y::b=>by
  unfold Lib.compareBytes
  split
  ·exact .inl rfl
  ·split
   ·exact .inr (.inr rfl)
   ·exact zPh a b
theorem zNP:∀a b:List UInt8,Lib.compareBytes b a=- Lib.compareBytes a b
 | [],[]=>rfl
 | [],_::_=>rfl
 | _::_,[]=>rfl
 | x::a,y::b=>by
  unfold Lib.compareBytes;by_cases u:x<y
  ·rw[yq u,yl (UInt8.lt_asymm u),yq u];rfl
  ·rw[yl u];by_cases J:y<x
   ·simp[u,J]
   ·simp only[u,J,if_false];exact zNP a b
theorem zK1:∀a b c:List UInt8,Lib.compareBytes a b≤0->Lib.compareBytes b c≤0->Lib.compareBytes a c≤0
 | [],_,[],_,_=>by simp[Lib.compareBytes]
 | [],_,_::_,_,_=>by simp[Lib.compareBytes]
 | _::_,[],_,h,_=>by simp[Lib.compareBytes]at h
 | _::_,_::_,[],_,h=>by simp[Lib.compareBytes]at h
 | x::a,y::b,z::c,h1,h2=>by
  unfold Lib.compareBytes at h1 h2 ⊢;by_cases O:x<y
  ·by_cases u:y<z
   ·rw[yq (UInt8.lt_trans O u)];decide
   ·rw[yl u]at h2;by_cases J:z<y
    ·rw[yq J]at h2;simp at h2
    ·have:=UInt8.le_antisymm (UInt8.not_lt.1 J) (UInt8.not_lt.1 u);subst this;rw[yq O];decide
  ·rw[yl O]at h1;by_cases u:y<x
   ·rw[yq u]at h1;simp at h1
   ·have:=UInt8.le_antisymm (UInt8.not_lt.1 u) (UInt8.not_lt.1 O);subst this;rw[yl u]at h1;by_cases J:x<z
    ·rw[yq J];decide
    ·rw[yl J]at h2 ⊢;by_cases V:z<x
     ·rw[yq V]at h2;simp at h2
     ·rw[yl V]at h2 ⊢;exact zK1 a b c h1 h2
def zBI(a b:ByteArray):Int:=Lib.compareBytes a.data.toList b.data.toList
theorem zIg(a:ByteArray):zBI a a=0:=zNO _
theorem zDA(a b:ByteArray):zBI b a=- zBI a b:=zNP _ _
theorem zGw(u:zBI a b≤0)(J:zBI b c≤0):zBI a c≤0:=zK1 _ _ _ u J
theorem zHi(u:zBI a b≤0)(V:zBI b c<0):zBI a c<0:=by
 by_cases h:zBI a c<0;{exact h};{have O:zBI c a≤0:=(by rw[zDA];omega);have J:=zGw O u;rw[zDA]at J;omega}
theorem zIh(a b:ByteArray)(w:zw):Calls prog 116 #[.string a,.string b] w fun e w'=>e=.returned (I (zBI a b))∧w'=w:=by
 go_enter func116,ntmps116;go_wp2;rw[run_callFunc_extern func136 zk zk zk (e:=Extern.BytealgCompare.compare) zk,Lib.run_compareString];simp only[Result.andThen];rw[Oper.upon_value];go_wp2;go_ret;exact⟨rfl,rfl⟩
theorem zDB(a b:ByteArray)(w:zw):Calls prog 88 #[.string a,.string b] w fun e w'=>e=.returned (I (zBI a b))∧w'=w:=by
 go_enter func88,ntmps88;go_wp2_with (go_at_call 116;refine(zIh _ _ _).mono ?_;rintro e w' ⟨rfl,rfl⟩);go_ret;exact⟨rfl,rfl⟩
abbrev oV(k:UInt8)(o:Ob)(s:Il):Value:=.agg #[B k,.string o.name,I o.size,U64 o.seq,.slice s.a o.blk.length s.c]
theorem zIi(k:UInt8)(o:Ob)(s:Il)(n:ByteArray)(w:zw):Calls prog 87 #[oV k o s,.string n] w fun e w'=>e=.returned (I (zBI o.name n))∧Below w w w':=by
 obtain⟨u,V,J,O⟩:=o;have HB:=zz (((yh w w).alloc (yb _) (.cells #[B k,.string u,I V,U64 J,.slice s.a O.length s.c] 160)));have Z:=Row.lit w #[B k,.string u,I V,U64 J,.slice s.a O.length s.c] 160;have c1:(w.alloc (.cells #[B k,.string u,I V,U64 J,.slice s.a O.length s.c] 160)).cell? (w,1)=some (.string u):=Z.cell 1 zs;clear Z;go_enter func87,ntmps87;go_upto_region 1 with fail;generalize w.alloc (.cells #[.int .u8 (k.toNat:Int),.string u,.int .i64 (V:Int),.int .u64 (J:Int),.slice s.a O.length s.c] 160)=w1 at *;go_wp2_with (go_at_call 88;refine(zDB _ _ _).mono ?_;rintro e w' ⟨rfl,rfl⟩);go_ret;exact⟨rfl,HB.o⟩
theorem zFa(k:UInt8)(o:Ob)(s:Il)(n:ByteArray)(w:zw):Calls prog 94 #[oV k o s,.string n] w fun e w'=>e=.returned (I (zBI o.name n))∧Below w w w':=by
 obtain⟨u,V,J,O⟩:=o;have HB:=zz (((yh w w).alloc (yb _) (.cells #[B k,.string u,I V,U64 J,.slice s.a O.length s.c] 160)));have Z:=Row.lit w #[B k,.string u,I V,U64 J,.slice s.a O.length s.c] 160;have c1:(w.alloc (.cells #[B k,.string u,I V,U64 J,.slice s.a O.length s.c] 160)).cell? (w,1)=some (.string u):=Z.cell 1 zs;clear Z;go_enter func94,ntmps94;go_upto_region 1 with fail;generalize w.alloc (.cells #[.int .u8 (k.toNat:Int),.string u,.int .i64 (V:Int),.int .u64 (J:Int),.slice s.a O.length s.c] 160)=w1 at *;go_wp2_with (go_at_call 88;refine(zDB _ _ _).mono ?_;rintro e w' ⟨rfl,rfl⟩);go_ret;exact⟨rfl,HB.o⟩
theorem zLz(k k2:UInt8)(o o2:Ob)(s Z:Il)(w:zw):Calls prog 106 #[oV k o s,oV k2 o2 Z] w fun e w'=>e=.returned (I (zBI o.name o2.name))∧Below w w w':=by
 obtain⟨nm,sz,sq,bl⟩:=o;obtain⟨u,O,V,J⟩:=o2;have HB:=zz (((yh w w).alloc (yb _) (.cells #[B k,.string nm,I sz,U64 sq,.slice s.a bl.length s.c] 160)).alloc zs (.cells #[B k2,.string u,I O,U64 V,.slice Z.a J.length Z.c] 160));have hK:=(Row.lit w #[B k,.string nm,I sz,U64 sq,.slice s.a bl.length s.c] 160).alloc (.cells #[B k2,.string u,I O,U64 V,.slice Z.a J.length Z.c] 160);have a0:=Row.lit (w.alloc (.cells #[B k,.string nm,I sz,U64 sq,.slice s.a bl.length s.c] 160)) #[B k2,.string u,I O,U64 V,.slice Z.a J.length Z.c] 160;rw[yw]at a0;have c1:((w.alloc (.cells #[B k,.string nm,I sz,U64 sq,.slice s.a bl.length s.c] 160)).alloc (.cells #[B k2,.string u,I O,U64 V,.slice Z.a J.length Z.c] 160)).cell? (w,1)=some (.string nm):=hK.cell 1 zs;have c2:((w.alloc (.cells #[B k,.string nm,I sz,U64 sq,.slice s.a bl.length s.c] 160)).alloc (.cells #[B k2,.string u,I O,U64 V,.slice Z.a J.length Z.c] 160)).cell? (w.heap.size+1,1)=some (.string u):=a0.cell 1 zs;clear hK a0;go_enter func106,ntmps106;go_upto_region 1 with fail;generalize(w.alloc (.cells #[.int .u8 (k.toNat:Int),.string nm,.int .i64 (sz:Int),.int .u64 (sq:Int),.slice s.a bl.length s.c] 160)).alloc (.cells #[.int .u8 (k2.toNat:Int),.string u,.int .i64 (O:Int),.int .u64 (V:Int),.slice Z.a J.length Z.c] 160)=w1 at *;go_wp2_with (go_at_call 88;refine(zDB _ _ _).mono ?_;rintro e w' ⟨rfl,rfl⟩);go_ret;exact⟨rfl,HB.o⟩
def lbN(L:List Ob)(n:ByteArray):Nat:=(L.takeWhile fun o=>decide (zBI o.name n<0)).length
def zHQ(L:List Ob)(n:ByteArray):Bool:=decide (lbN L n<L.length)&&decide (zBI (L.getD (lbN L n) Obd).name n=0)
def zAd(L:List Ob):Prop:=∀i j,i≤j->j<L.length->zBI (L.getD i Obd).name (L.getD j Obd).name≤0
theorem zSg(n:ByteArray):∀(L:List Ob) (i:Nat),i≤L.length->(∀k,k<i->zBI (L.getD k Obd).name n<0)->(i<L.length->0≤zBI (L.getD i Obd).name n)->lbN L n=i
 | [],i,h,_,_=>by simp at h;subst h;rfl
 | o::L,0,_,_,h=>by
  have u:=h zs;unfold lbN;rw[yBb];have u:0≤zBI o.name n:=u;rw[yl (by simp;omega)];rfl
 | o::L,i+1,h1,h2,h3=>by
  have u:zBI o.name n<0:=h2 0 zo;have J:=zSg n L i (by simpa using h1) (fun k hk=>h2 (k+1) zo) (fun O=>h3 (by simpa using O));unfold lbN at J ⊢;rw[yBb,yq (by simpa using u),yF,J]
theorem zSh(L:List Ob)(n:ByteArray):lbN L n≤L.length:=(List.takeWhile_prefix _).length_le
theorem zO6(w:zw)(a:Option Addr)(b c:Nat)(L:List Ob)(K:Nat->UInt8)(S:Nat->Il)(n:ByteArray)(H:zBN w a b c L K S)(hs:zAd L)(hn:L.length≤1000000):
  Calls prog 86 #[.slice a L.length c,.string n,.func (.func 87) #[] #[]] w fun e w'=>e=.returned (.tuple #[I (lbN L n),.bool (zHQ L n)])∧Below w w w':=by
 have HH:=zz H;have HS:=zz hs;have a3:=H.els.cap;have a6:=H.els.max;obtain⟨m,hm⟩:=zx L.length;have HM:=zz hm;rw[<-hm]at hn a3 ⊢;clear H hs hm;go_enter func86,ntmps86;go_wp2_with fail;go_loopg [9,10] m (fun g vi vj wr=>∃i j:Nat,g=j - i∧i≤j∧j≤m∧vi=I i∧vj=I j∧(∀k,k<i->zBI (L.getD k Obd).name n<0)∧(∀k,j≤k->k<m->0≤zBI (L.getD k Obd).name n)∧Below w w wr);(case atStart=>exact⟨0,m,rfl,zo,zo,rfl,rfl,fun k hk=>zo,fun k h1 h2=>zo,yh _ _⟩);(case round=>obtain⟨i,j,rfl,a7,a4,rfl,rfl,h1,h2,hb⟩:=hrel;have H1:=zz h1;have H2:=zz h2;have HB:=zz hb;have HO:=zz (HH.o.later hb);clear h1 h2 hb;obtain⟨wo,rfl⟩:=zx wr;have u:∀h,h<m->(a=zp b)∧∃(o:Ob) (k:UInt8) (s:Il),o=L.getD h Obd∧wo.cell? ⟨b,h*5,none⟩=some (B k)∧wo.cell? ⟨b,h*5+1,none⟩=some (.string o.name)∧wo.cell? ⟨b,h*5+2,none⟩=some (I o.size)∧wo.cell? ⟨b,h*5+3,none⟩=some (U64 o.seq)∧wo.cell? ⟨b,h*5+4,none⟩=some (.slice s.a o.blk.length s.c):=fun h hh=>(by have O:=fun t (ht:t<5)=>HO.o.els.at (by rw[<-HM.o];exact hh:h<L.length) ht;refine⟨HH.o.els.addr (by rw[<-HM.o];omega),L.getD h Obd,K h,S h,rfl,?_,?_,?_,?_,?_⟩;{have:=O 0 zo;rwa[yc,yAk]at this};{have:=O 1 zo;rwa[yc]at this};{have:=O 2 zo;rwa[yc]at this};{have:=O 3 zo;rwa[yc]at this};{have:=O 4 zo;rwa[yc]at this});by_cases a8:i<j;{obtain⟨rfl,o,k,s,ho,c0,c1,c2,c3,c4⟩:=u ((i+j) / 2) zo;have a1:=zz ho;have HC:=zz (fun W=>zIi k o s n W);obtain⟨nm,sz,sq,bl⟩:=o;dsimp only at *;clear ho u;go_upto_region 5 with fail;have a0:=zy (∀W,Below wo wo W->Below w w W) (fun W hW=>HB.o.trans (hW.mono HB.o.size));by_cases hc:zBI nm n<0;{have t1:=yG hc;go_wp2_with (go_at_call 87;refine(HC.o _).mono ?_;rintro e w4 ⟨rfl,V⟩);go_roundg (j - ((i+j) / 2+1));(case measure=>omega);(case rel=>refine⟨(i+j) / 2+1,j,rfl,zo,a4,by go_num,rfl,fun k' hk=>?_,H2.o,a0.o _ V⟩;have h3:zBI (L.getD ((i+j) / 2) Obd).name n<0:=(by rw[<-a1.o];exact hc);exact zHi (HS.o k' ((i+j) / 2) zo (by rw[<-HM.o];omega)) h3)};{have t1:=yA hc;go_wp2_with (go_at_call 87;refine(HC.o _).mono ?_;rintro e w4 ⟨rfl,V⟩);go_roundg ((i+j) / 2 - i);(case measure=>omega);(case rel=>refine⟨i,(i+j) / 2,rfl,zo,zo,rfl,by go_num,H1.o,fun k' hk a5=>?_,a0.o _ V⟩;have h3:¬zBI (L.getD ((i+j) / 2) Obd).name n<0:=(by rw[<-a1.o];exact Int.not_lt.2 (by first | exact hc | exact Int.not_lt.1 hc));have h4:=HS.o ((i+j) / 2) k' hk (by rw[<-HM.o];exact a5);exact Int.not_lt.1 fun h5=>h3 (zHi h4 h5))}};{obtain rfl:i=j:=zo;have Z:=zy (lbN L n=i) (zSg n L i (by rw[<-HM.o];exact a4) H1.o fun hi=>H2.o i (yb _) (by rw[HM.o];exact hi));by_cases a2:i<m;{obtain⟨rfl,o,k,s,ho,c0,c1,c2,c3,c4⟩:=u i a2;have a1:=zz ho;have HC:=zz (fun W=>zIi k o s n W);have J:=zy (zHQ L n=(zBI o.name n==0)) (by unfold zHQ;rw[Z.o,<-HM.o,<-ho];simp only[a2,decide_true,Bool.true_and];rfl);obtain⟨nm,sz,sq,bl⟩:=o;dsimp only at *;clear ho u;go_wp2_with (go_at_call 87;refine(HC.o _).mono ?_;rintro e w4 ⟨rfl,V⟩);go_ret2;exact⟨by rw[Z.o,J.o];rfl,HB.o.trans (V.mono HB.o.size)⟩};{have J:=zy (zHQ L n=false) (by unfold zHQ;rw[Z.o,<-HM.o];simp[a2]);clear u;go_wp2_with fail;go_ret2;exact⟨by rw[Z.o,J.o];rfl,HB.o⟩}})
theorem zAd.of(h:∀i,i+1<L.length->zBI (L.getD i Obd).name (L.getD (i+1) Obd).name≤0):zAd L:=by
 intro i j u J;(induction j with |zero=>(obtain rfl:i=0:=zo;rw[zIg];exact Int.le_refl _)|succ j ih=>(by_cases e:i=j+1;{subst e;rw[zIg];exact Int.le_refl _};{exact zGw (ih zo zo) (h j J)}))
def zJn(L:List Ob):Bool:=(List.range (L.length - 1)).all fun i=>decide (zBI (L.getD i Obd).name (L.getD (i+1) Obd).name≤0)
theorem zGN:zJn L=true↔zAd L:=by
 unfold zJn;rw[yW];refine⟨fun h=>zAd.of fun i u=>by simpa using h i (by simp;omega),fun h i u=>?_⟩;have:i<L.length - 1:=(by simpa using u);simpa using h i (i+1) zo zo
theorem zJo(w:zw)(a:Option Addr)(b c:Nat)(L:List Ob)(K:Nat->UInt8)(S:Nat->Il)(H:zBN w a b c L K S)(hn:L.length≤1000000):
  Calls prog 105 #[.slice a L.length c,.func (.func 106) #[] #[]] w fun e w'=>e=.returned (.bool (zJn L))∧Below w w w':=by
 have HH:=zz H;have a9:=H.els.cap;have b4:=H.els.max;obtain⟨m,hm⟩:=zx L.length;have HM:=zz hm;rw[<-hm]at hn a9 ⊢;clear H hm;go_enter func105,ntmps105;go_wp2_with fail;go_loopg [5] (m - 1+1) (fun g vi wr=>∃i:Nat,g=i+1∧(i<m∨i=0)∧vi=I (if m=0 then -1 else(i:Int))∧(∀k,i≤k->k+1<m->zBI (L.getD k Obd).name (L.getD (k+1) Obd).name≤0)∧Below w w wr);(case atStart=>by_cases h0:m=0;{exact⟨0,zo,.inr rfl,by rw[yq h0];subst h0;go_num,fun k h1 h2=>zo,yh _ _⟩};{exact⟨m - 1,rfl,.inl zo,by rw[yl h0];go_num,fun k h1 h2=>zo,yh _ _⟩})
 case round=>
  obtain⟨i,rfl,hi,rfl,h1,hb⟩:=hrel;have H1:=zz h1;have HB:=zz hb;have HO:=zz (HH.o.later hb);clear h1 hb;obtain⟨wo,rfl⟩:=zx wr;by_cases b2:i=0;{subst b2;have t0:decide ((0:Int)<(if m=0 then -1 else((0:Nat):Int)))=false:=(by split<;>simp);have HS:=zy (zJn L=true) (zGN.2 (zAd.of fun i hi=>H1.o i zo (by rw[HM.o];exact hi)));obtain⟨z,hz⟩:∃z:Int,z=(if m=0 then -1 else((0:Nat):Int)):=⟨_,rfl⟩;rw[<-hz]at t0 ⊢;clear hz;go_wp2_with fail;go_ret;exact⟨by rw[HS.o];rfl,HB.o⟩}
  ·have a5:¬m=0:=zo;rw[yl a5];have b0:i<m:=zo;have t0:decide ((0:Int)<i)=true:=yG zo;obtain⟨J,rfl⟩:∃J,i=J+1:=⟨i - 1,zo⟩;have Z:∀h,h<m->(a=zp b)∧∃(o:Ob) (k:UInt8) (s:Il),o=L.getD h Obd∧wo.cell? ⟨b,h*5,none⟩=some (B k)∧wo.cell? ⟨b,h*5+1,none⟩=some (.string o.name)∧wo.cell? ⟨b,h*5+2,none⟩=some (I o.size)∧wo.cell? ⟨b,h*5+3,none⟩=some (U64 o.seq)∧wo.cell? ⟨b,h*5+4,none⟩=some (.slice s.a o.blk.length s.c):=fun h hh=>(by have O:=fun t (ht:t<5)=>HO.o.els.at (by rw[<-HM.o];exact hh:h<L.length) ht;refine⟨HH.o.els.addr (by rw[<-HM.o];omega),L.getD h Obd,K h,S h,rfl,?_,?_,?_,?_,?_⟩;{have:=O 0 zo;rwa[yc,yAk]at this};{have:=O 1 zo;rwa[yc]at this};{have:=O 2 zo;rwa[yc]at this};{have:=O 3 zo;rwa[yc]at this};{have:=O 4 zo;rwa[yc]at this})
   obtain⟨_,o2,k2,s2,a6,e0,e1,e2,e3,e4⟩:=Z J zo;obtain⟨rfl,o,k,s,ho,c0,c1,c2,c3,c4⟩:=Z (J+1) b0;have HC:=zz (fun W=>zLz k k2 o o2 s s2 W);have a7:=zy (zBI (L.getD (J+1) Obd).name (L.getD J Obd).name=zBI o.name o2.name) (by rw[ho,a6]);obtain⟨nm,sz,sq,bl⟩:=o;obtain⟨b3,b7,b9,b6⟩:=o2;dsimp only at *;clear ho a6 Z hi;go_upto_region 4 with fail;obtain⟨we,a1⟩:=zx wo.drew;have a0:Below wo wo we:=(by rw[a1];exact zA wo);have a2:=zz (HB.o.trans (a0.mono HB.o.size));obtain⟨κ,b5,wB,a8,a3⟩:=zH (fun _=>False) we;have hk:∀{ad:Addr} {v:Value},wo.cell? ad=some v->∀n,(wB n).cell? ad=some v:=fun{ad v} hc n=>
    (yk ((a8 n).block _ (yI (yt _ _ hc) a0.size) id)).trans ((yk (a0.block _ (yt _ _ hc))).trans hc)
   have y0:=hk c0;have y1:=hk c1;have y2:=hk c2;have y3:=hk c3;have y4:=hk c4;have z0:=hk e0;have z1:=hk e1;have z2:=hk e2;have z3:=hk e3;have z4:=hk e4;have i1:((J:Int)+1)<(m:Int):=zo;have i2:(J:Int)<m:=zo;refine zG (.rd [0,1,2,3,4,5,6,7,8,9] (.op 10 (.rd [11] .done))) (fun V=>∃n,V=wB n) zP zk (fun c a d v w h=>by cases d<;>exact h) (a3.o _ (by rw[<-a1];exact Upd.refl _ _)) ?_;rw[<-a1];clear a1 a0 a8 hk c0 c1 c2 c3 c4 e0 e1 e2 e3 e4;refine zE ?_;simp only[pick,ym,yo,yi,yj];change wpQuiet _ _ _ _ (_::_::_::_::_::_::_::_::_::_::[]) _;(repeat(go_big_quiet_step (fail)));refine wpQuiet_nil ?_;clear y0 y1 y2 y3 y4 z0 z1 z2 z3 z4;refine zD ?_;refine zB (i:=10) rfl rfl ?_;by_cases hc:zBI nm b3<0
   ·have t1:=yG hc;go_wp2_with (go_at_call 106;refine(HC.o _).mono ?_;rintro e w4 ⟨rfl,u⟩);have a4:=zz (a2.o.trans (u.mono a2.o.size));refine⟨a3.o _ (Upd.of_below u),zE ?_⟩;clear u;simp only[pick,ym,yo,yi,yj];change wpQuiet _ _ _ _ (_::[]) _;(repeat(go_big_quiet_step (fail)))
    refine wpQuiet_nil ?_;refine zF ?_;go_wp2_with fail;go_ret;have HN:=zy (zJn L=false) (by
     cases e:zJn L with
     | false=>rfl
     | true=>
      have h3:=zGN.1 e J (J+1) zo (by rw[<-HM.o];exact b0);rw[zDA,a7.o]at h3;omega)
    exact⟨by rw[HN.o];rfl,a4.o⟩
   {have t1:=yA hc;go_wp2_with (go_at_call 106;refine(HC.o _).mono ?_;rintro e w4 ⟨rfl,u⟩);have a4:=zz (a2.o.trans (u.mono a2.o.size));refine⟨a3.o _ (Upd.of_below u),zE ?_⟩;clear u;simp only[pick,ym,yo,yi,yj];change wpQuiet _ _ _ _ (_::[]) _;(repeat(go_big_quiet_step (fail)));refine wpQuiet_nil ?_;refine zF ?_;go_wp2_with fail;go_roundg (J+1);(case measure=>omega);(case rel=>refine⟨J,rfl,zo,by rw[yl a5],fun k' hk b1=>?_,a4.o⟩;by_cases e:k'=J;{subst e;rw[zDA,a7.o];omega};{exact H1.o k' zo b1})}
theorem zKj(w:zw)(a:Option Addr)(b c:Nat)(L:List Ob)(K:Nat->UInt8)(S:Nat->Il)(n:ByteArray)(H:zBN w a b c L K S)(hs:zAd L)(hn:L.length≤1000000):
  Calls prog 86 #[.slice a L.length c,.string n,.func (.func 94) #[] #[]] w fun e w'=>e=.returned (.tuple #[I (lbN L n),.bool (zHQ L n)])∧Below w w w':=by
 have HH:=zz H;have HS:=zz hs;have a3:=H.els.cap;have a6:=H.els.max;obtain⟨m,hm⟩:=zx L.length;have HM:=zz hm;rw[<-hm]at hn a3 ⊢;clear H hs hm;go_enter func86,ntmps86;go_wp2_with fail;go_loopg [9,10] m (fun g vi vj wr=>∃i j:Nat,g=j - i∧i≤j∧j≤m∧vi=I i∧vj=I j∧(∀k,k<i->zBI (L.getD k Obd).name n<0)∧(∀k,j≤k->k<m->0≤zBI (L.getD k Obd).name n)∧Below w w wr);(case atStart=>exact⟨0,m,rfl,zo,zo,rfl,rfl,fun k hk=>zo,fun k h1 h2=>zo,yh _ _⟩);(case round=>obtain⟨i,j,rfl,a7,a4,rfl,rfl,h1,h2,hb⟩:=hrel;have H1:=zz h1;have H2:=zz h2;have HB:=zz hb;have HO:=zz (HH.o.later hb);clear h1 h2 hb;obtain⟨wo,rfl⟩:=zx wr;have u:∀h,h<m->(a=zp b)∧∃(o:Ob) (k:UInt8) (s:Il),o=L.getD h Obd∧wo.cell? ⟨b,h*5,none⟩=some (B k)∧wo.cell? ⟨b,h*5+1,none⟩=some (.string o.name)∧wo.cell? ⟨b,h*5+2,none⟩=some (I o.size)∧wo.cell? ⟨b,h*5+3,none⟩=some (U64 o.seq)∧wo.cell? ⟨b,h*5+4,none⟩=some (.slice s.a o.blk.length s.c):=fun h hh=>(by have O:=fun t (ht:t<5)=>HO.o.els.at (by rw[<-HM.o];exact hh:h<L.length) ht;refine⟨HH.o.els.addr (by rw[<-HM.o];omega),L.getD h Obd,K h,S h,rfl,?_,?_,?_,?_,?_⟩;{have:=O 0 zo;rwa[yc,yAk]at this};{have:=O 1 zo;rwa[yc]at this};{have:=O 2 zo;rwa[yc]at this};{have:=O 3 zo;rwa[yc]at this};{have:=O 4 zo;rwa[yc]at this});by_cases a8:i<j;{obtain⟨rfl,o,k,s,ho,c0,c1,c2,c3,c4⟩:=u ((i+j) / 2) zo;have a1:=zz ho;have HC:=zz (fun W=>zFa k o s n W);obtain⟨nm,sz,sq,bl⟩:=o;dsimp only at *;clear ho u;go_upto_region 5 with fail;have a0:=zy (∀W,Below wo wo W->Below w w W) (fun W hW=>HB.o.trans (hW.mono HB.o.size));by_cases hc:zBI nm n<0;{have t1:=yG hc;go_wp2_with (go_at_call 94;refine(HC.o _).mono ?_;rintro e w4 ⟨rfl,V⟩);go_roundg (j - ((i+j) / 2+1));(case measure=>omega);(case rel=>refine⟨(i+j) / 2+1,j,rfl,zo,a4,by go_num,rfl,fun k' hk=>?_,H2.o,a0.o _ V⟩;have h3:zBI (L.getD ((i+j) / 2) Obd).name n<0:=(by rw[<-a1.o];exact hc);exact zHi (HS.o k' ((i+j) / 2) zo (by rw[<-HM.o];omega)) h3)};{have t1:=yA hc;go_wp2_with (go_at_call 94;refine(HC.o _).mono ?_;rintro e w4 ⟨rfl,V⟩);go_roundg ((i+j) / 2 - i);(case measure=>omega);(case rel=>refine⟨i,(i+j) / 2,rfl,zo,zo,rfl,by go_num,H1.o,fun k' hk a5=>?_,a0.o _ V⟩;have h3:¬zBI (L.getD ((i+j) / 2) Obd).name n<0:=(by rw[<-a1.o];exact Int.not_lt.2 (by first | exact hc | exact Int.not_lt.1 hc));have h4:=HS.o ((i+j) / 2) k' hk (by rw[<-HM.o];exact a5);exact Int.not_lt.1 fun h5=>h3 (zHi h4 h5))}};{obtain rfl:i=j:=zo;have Z:=zy (lbN L n=i) (zSg n L i (by rw[<-HM.o];exact a4) H1.o fun hi=>H2.o i (yb _) (by rw[HM.o];exact hi));by_cases a2:i<m;{obtain⟨rfl,o,k,s,ho,c0,c1,c2,c3,c4⟩:=u i a2;have a1:=zz ho;have HC:=zz (fun W=>zFa k o s n W);have J:=zy (zHQ L n=(zBI o.name n==0)) (by unfold zHQ;rw[Z.o,<-HM.o,<-ho];simp only[a2,decide_true,Bool.true_and];rfl);obtain⟨nm,sz,sq,bl⟩:=o;dsimp only at *;clear ho u;go_wp2_with (go_at_call 94;refine(HC.o _).mono ?_;rintro e w4 ⟨rfl,V⟩);go_ret2;exact⟨by rw[Z.o,J.o];rfl,HB.o.trans (V.mono HB.o.size)⟩};{have J:=zy (zHQ L n=false) (by unfold zHQ;rw[Z.o,<-HM.o];simp[a2]);clear u;go_wp2_with fail;go_ret2;exact⟨by rw[Z.o,J.o];rfl,HB.o⟩}})
def zUR(w:zw)(b:List UInt8)(e:Ending)(w':zw):Prop:=
 ∃(a:Option Addr) (u n c:Nat),e=.returned (.tuple #[.slice a n c,.bool (zIc b).isSome])∧Below w w w'∧∀L,zIc b=some L->n=L.length∧∃S,zBN w' a u c L (fun _=>1) S
theorem zNI(x:Nx):x=.none∨(∃n,x=.count n)∨∃o,x=.obj o:=by
 (cases x with |none=>(exact .inl rfl)|count n=>(exact .inr (.inl ⟨n,rfl⟩))|obj o=>(exact .inr (.inr ⟨o,rfl⟩)))
theorem zUS(x:Value)(w:zw):(Instr.typeAssert (.iface 235 x) 232 235 true).run prog w=.ok (.tuple #[x,.bool true]) w:=by kernel_rfl
theorem zUT(x:Value)(w:zw):(Instr.typeAssert (.iface 160 x) 232 235 true).run prog w=.ok (.tuple #[.agg #[B 0,I 0],.bool false]) w:=by kernel_rfl
theorem zUU(x:Value)(w:zw):(Instr.typeAssert (.iface 160 x) 232 160 true).run prog w=.ok (.tuple #[x,.bool true]) w:=by kernel_rfl
theorem zUV(w:zw):(Instr.typeAssert .nilIface 232 235 true).run prog w=.ok (.tuple #[.agg #[B 0,I 0],.bool false]) w:=by kernel_rfl
theorem zUW(w:zw):(Instr.typeAssert .nilIface 232 160 true).run prog w=.ok (.tuple #[.agg #[B 0,.string ⟨#[]⟩,I 0,U64 (0:Nat),.slice none 0 0],.bool false]) w:=by kernel_rfl
theorem zPb(w:zw):(binOp .eql 232 .nilIface .nilIface).run prog w=.ok (.bool true) w:=by kernel_rfl
theorem zNJ(w:zw)(sb so c:Nat)(O:List UInt8)(b6:Rd w sb so O.length (rb (lx O)))(d9:Kd w sb 5)(hc:O.length≤c)(hm:c≤9223372036854775807)(hl:O.length≤1000000):
  Calls prog 72 #[.slice (some ⟨sb,so,none⟩) O.length c] w (zUR w O):=by
 have b2:Below w w (w.alloc (.cells #[.slice (some ⟨sb,so,none⟩) O.length c,.bool false] 230)):=(yh _ w).alloc (yb _) _;have d8:=zy (zBz (w.alloc (.cells #[.slice (some ⟨sb,so,none⟩) O.length c,.bool false] 230)) w sb so O ⟨O,false⟩) (
  ⟨⟨⟨sb,so,none⟩,0,c,(Row.lit w #[.slice (some ⟨sb,so,none⟩) O.length c,.bool false] 230).congr (fun i hi=>by match i,hi with | 0,_ | 1,_=>rfl),fun _=>rfl,rfl,hc,hm⟩,Kd.new w _ _,b6.later b2,d9.later b2⟩)
 have e6:=zz b2;have d6:=zy (zIc O=zEe (O.length+1) ⟨O,false⟩ (-1) []) rfl;obtain⟨n0,c9⟩:=zx O.length;have d2:=zz c9;rw[<-c9]at hl hc ⊢;clear b6 d9 b2 c9;go_enter func72,ntmps72;go_upto_region 2 with fail;rw[<-d2.o]at d8 e6;generalize w.alloc (.cells #[.slice (some ⟨sb,so,none⟩) n0 c,.bool false] 230)=w1 at *;go_wp2_with fail;go_loopg [5,6] (n0+1) (fun g vw vl wr=>∃(s:Rs) (u:Int) (L:List Ob) (S:Nat->Il),vw=I u∧zIc O=zEe g s u L∧s.rest.length<g∧L.length+g≤n0+1∧ObV wr w vl L (fun _=>1) S∧zBz wr w sb so O s∧Below w w wr);(case atStart=>exact⟨⟨O,false⟩,-1,[],fun _=>⟨none,0,0,0⟩,rfl,by rw[d6.o,d2.o],by rw[d2.o];simp,zs,⟨Vz.nil _ _ _ _ _,fun i hi=>absurd hi zs,fun o ho=>absurd ho zs⟩,d8.o,e6.o⟩)
 case round=>
  obtain⟨j,f1⟩:=zx gk;subst f1;obtain⟨s,u,L,S,rfl,b5,c3,e9,a6,d3,hb⟩:=hrel;have a9:=zz b5;have e5:=zz a6;have d0:=zz hb;have e2:=zz d3.kd;have c6:=zz (zPe wr w sb so O s d3);obtain⟨va,vb,vc,rfl,-⟩:=a6.1.shape;obtain⟨ln,d1⟩:=zx L.length;have a0:=zz d1;rw[<-d1]at e9 ⊢;have c7:=zGu s;have hg:∃j',j=j'+1:=⟨j - 1,zo⟩;obtain⟨j',rfl⟩:=hg;have b4:=zz (show zEe (j'+1) s u L=if(zBm s).2.bad then none
  else match(zBm s).1 with
   | .none=>if u=(L.length:Int)then some L else none
   | .count n=>zEe j' (zBm s).2 n L
   | .obj o=>zEe j' (zBm s).2 u (L++[o])from rfl)
  have d5:=zy (∀o,(zBm s).1=.obj o->o.ok) (fun o ho=>by
   unfold zBm at ho
   split at ho
   ·cases ho
   ·split at ho
    ·cases ho;exact(zRb _).1
    ·cases ho)
  unfold zNL at c6;generalize zBm s=t at *;obtain⟨x,s'⟩:=t;dsimp only at *;clear b5 a6 hb d3 d1;obtain⟨wo,rfl⟩:=zx wr;go_upto_region 5 with(go_at_call 104;refine c6.o.mono ?_;rintro e w2 ⟨v,rfl,hv,hr,hu⟩);obtain⟨ad,p,c2,e0,_⟩:=hr.ex;have b1:w2.cell? (w,1)=some (.bool s'.bad):=e0.cell 1 zo;have b7:=zz hr;have f5:=zz hu;have b3:=zz hv;have a2:=zz (Below.upd d0.o hu (fun b e=>e▸yb _) d0.o.size);have b0:=zy (ObV w2 w (.slice va ln vc) L (fun _=>1) S) (by have h:=e5.o;rw[<-a0.o]at h;refine⟨h.1.kept hu fun k hk e=>h.1.qa e2.o zd k hk e,fun i hi=>(h.2.1 i hi).upd hu fun b e hk=>absurd rfl (hk.ne (e▸e2.o) zd),h.2.2⟩);clear hr hu hv e0 e5 d0 c6;obtain⟨bd,c5⟩:=zx s'.bad;have a8:=zz c5;rw[<-c5]at b1 c7;clear c5;(cases bd with |true=>(have a1:=zy (zIc O=none) (by rw[a9.o,b4.o,<-a8.o];rfl);go_wp2_with fail;go_ret2;exact⟨none,0,0,0,by rw[a1.o];rfl,a2.o,fun L h=>by rw[a1.o]at h;cases h⟩)|false=>(have c7:=c7 rfl;rcases zNI x with rfl | ⟨n,rfl⟩ | ⟨o,rfl⟩;{obtain rfl:v=.nilIface:=b3.o;have V:=zz (show zIc O=if u=(L.length:Int)then some L else none from by rw[a9.o,b4.o,<-a8.o];rfl);have e4:=zUV;have g0:=zUW;have g2:=zPb;by_cases hw:u=(ln:Int);{have t1:(u==(ln:Int))=true:=(by simpa using hw);have a1:=zy (zIc O=some L) (by rw[V.o,yq (by rw[<-a0.o];exact hw)]);subst hw;go_wp2_with fail;go_ret2;obtain⟨a',b',c',e',f0⟩:=b0.o.obs;have e1:zBN w2 va b' vc L (fun _=>1) S:=(by cases e';exact f0);exact⟨va,b',ln,vc,by rw[a1.o];rfl,a2.o,fun L' h=>by rw[a1.o]at h;obtain rfl:L=L':=yBh h;exact⟨a0.o,S,e1⟩⟩};{have t1:(u==(ln:Int))=false:=(by simpa using hw);have a1:=zy (zIc O=none) (by rw[V.o,yl (by rw[<-a0.o];exact hw)]);clear hw;go_wp2_with fail;go_ret2;exact⟨va,0,ln,vc,by rw[a1.o];rfl,a2.o,fun L h=>by rw[a1.o]at h;cases h⟩}};{obtain rfl:v=.iface 235 (.agg #[B 2,I n]):=b3.o;have V:=zy (zIc O=zEe j' s' n L) (by rw[a9.o,b4.o,<-a8.o];rfl);have e4:=zUS (.agg #[B 2,I n]);go_wp2_with fail;go_roundg j';(case measure=>omega);(case rel=>have Z:Below w2 w2 (w2.alloc (.cells #[.int .u8 2,.int .i64 (n:Int)] 235)):=(yh _ w2).alloc (yb _) _;have a6:=b0.o.later Z;exact⟨s',n,L,S,rfl,V.o,zo,by rw[<-a0.o];omega,a6,b7.o.later Z,a2.o.trans (Z.mono a2.o.size)⟩)};{obtain⟨J,rfl,d7⟩:∃J:Il,v=.iface 160 (.agg #[B 1,.string o.name,I o.size,U64 o.seq,.slice J.a o.blk.length J.c])∧zFA w2 J o.blk:=b3.o;have V:=zy (zIc O=zEe j' s' u (L++[o])) (by rw[a9.o,b4.o,<-a8.o];rfl);have e3:=zz d7;have f4:=zz (d5.o o rfl);clear d7 d5;obtain⟨nm,sz,sq,bl⟩:=o;dsimp only at *;obtain⟨nb,c1⟩:=zx bl.length;have e8:=zz c1;rw[<-c1];have e4:=zUT (.agg #[B 1,.string nm,I sz,U64 sq,.slice J.a nb J.c]);have g0:=zUU (.agg #[B 1,.string nm,I sz,U64 sq,.slice J.a nb J.c]);clear c1 b3;have Z:Below w2 w2 (w2.alloc (.cells #[.int .u8 1,.string nm,.int .i64 (sz:Int),.int .u64 (sq:Int),.slice J.a nb J.c] 160)):=(yh _ w2).alloc (yb _) _;have f7:=zz (b7.o.later Z);have c0:=zz (a2.o.trans (Z.mono a2.o.size));have a5:=zz (b0.o.later Z);have f8:=zz (e3.o.later Z);have hk:=Row.lit w2 #[.int .u8 1,.string nm,.int .i64 (sz:Int),.int .u64 (sq:Int),.slice J.a nb J.c] 160;have k0:(w2.alloc (.cells #[.int .u8 1,.string nm,.int .i64 (sz:Int),.int .u64 (sq:Int),.slice J.a nb J.c] 160)).cell? w2=some (B 1):=hk.cell 0 zs;have k1:(w2.alloc (.cells #[.int .u8 1,.string nm,.int .i64 (sz:Int),.int .u64 (sq:Int),.slice J.a nb J.c] 160)).cell? (w2,1)=some (.string nm):=hk.cell 1 zs;have k2:(w2.alloc (.cells #[.int .u8 1,.string nm,.int .i64 (sz:Int),.int .u64 (sq:Int),.slice J.a nb J.c] 160)).cell? (w2,2)=some (I sz):=hk.cell 2 zs;have k3:(w2.alloc (.cells #[.int .u8 1,.string nm,.int .i64 (sz:Int),.int .u64 (sq:Int),.slice J.a nb J.c] 160)).cell? (w2,3)=some (U64 sq):=hk.cell 3 zs;have k4:(w2.alloc (.cells #[.int .u8 1,.string nm,.int .i64 (sz:Int),.int .u64 (sq:Int),.slice J.a nb J.c] 160)).cell? (w2,4)=some (.slice J.a nb J.c):=hk.cell 4 zs;clear hk Z b7 a2 b0 e3 f5;go_upto_region 13 with fail;clear b1;generalize w2.alloc (.cells #[.int .u8 1,.string nm,.int .i64 (sz:Int),.int .u64 (sq:Int),.slice J.a nb J.c] 160)=w3 at *;go_wp2_with (at_builtin;refine zAc rfl (.tmp 29) (.tmp 31) 123 rfl w 160 (.agg #[.int .u8 0,.string ⟨#[]⟩,.int .i64 0,.int .u64 0,.slice none 0 0]) 5 64 underlying123 zFW rfl zo (.slice va ln vc) ln (fun i=>zAe 1 (L.getD i Obd) (S i)) rfl (by rw[a0.o];have h:=a5.o.1;rw[<-a0.o]at h ⊢;exact h) #[B 1,.string nm,I sz,U64 sq,.slice J.a nb J.c] rfl 160 rfl (by simp[Value.oneCell']) zo zo (c0.o.size) ?_;intro v4 w4 b9 d4;simp only[Act.put,ya,ye,yd]);have a3:=d4;have a7:=fun(b t:Nat) (hk:Kd w3 b t) (ht:t≠160)=>a5.o.1.qa hk ht;have c3:=a5.o.1.lt;have g1:=zz (Below.upd c0.o a3 (fun b e=>(c3 b e.symm).1) c0.o.size);have f2:=zz (f7.o.upd a3 (fun b e=>⟨fun hk=>a7 b _ hk zd b e.symm rfl,fun hk=>a7 b _ hk zd b e.symm rfl⟩));have f3:=zz (f8.o.upd a3 (fun b e hk=>a7 b _ hk zd b e.symm rfl));have e7:=zz (fun i hi=>(a5.o.2.1 i hi).upd a3 (fun b e hk=>a7 b _ hk zd b e.symm rfl));have f6:=zz b9;have f9:∃a c,v4=.slice a (ln+1) c:=(by obtain⟨a,_,c,e,_⟩:=b9.shape;exact⟨a,c,e⟩);obtain⟨a4,c4,rfl⟩:=f9;clear b9 d4 a3 a7 c3;go_roundg j';(case measure=>omega);(case rel=>refine⟨s',u,L++[⟨nm,sz,sq,bl⟩],fun i=>if i<ln then S i else J,rfl,V.o,zo,by rw[yB,<-a0.o];simp only[yF,yK];omega,?_,f2.o,g1.o⟩;have hv:=f6.o;rw[e8.o]at hv;exact ObV.snoc a0.o hv e7.o f3.o a5.o.2.2 f4.o (fun _ _=>rfl) rfl (fun i h=>yq h) (yl (Nat.lt_irrefl _)))}))
theorem zGs:∀(n:Nat) (s:Rs),(zBD n s).2.bad=false->(zBD n s).2.rest.length+4*(zBD n s).1.length≤s.rest.length
 | 0,_,_=>by simp[zBD]
 | n+1,s,h=>by
  unfold zBD at h ⊢
  split at h
  ·rename_i hb
   rw[hb]at h;cases h
  ·rename_i hb
   rw[yl hb];have u:=zGs n _ h;have O:=zBH 4 s (zC9 n _ h);have J:(zAG 4 s).2=(zAQ 4 s).2:=rfl;rw[J]at u ⊢;simp only[yF];omega
theorem zNE(s:Rs)(h:(zIS s).2.bad=false):(zIS s).2.rest.length+(12+(zIS s).1.name.size+4*(zIS s).1.blk.length)≤s.rest.length:=by
 obtain⟨n,hn⟩:=zx ((zAG 1 s).1);have e1:=zFZ n (zAG 1 s).2;unfold zIS at h ⊢;dsimp only at h ⊢;rw[<-hn]at h ⊢;have h5:=zGs _ _ h;have O:=zC9 _ _ h;have V:=zAX 1 _ O;have u:=zAX 8 _ V;have J:=zAX 2 _ u;have b1:=zAX _ _ J;have k5:=zBH 1 _ O;have k4:=zBH 8 _ V;have k3:=zBH 2 _ u;have k2:=zBH _ _ J;have k1:=zBH 1 s b1;have g1:(zAG 1 s).2=(zAQ 1 s).2:=rfl;have g2:∀t,(zAG 2 t).2=(zAQ 2 t).2:=fun _=>rfl;have g3:∀t,(zAG 8 t).2=(zAQ 8 t).2:=fun _=>rfl;have Z:∀t,(zAG 1 t).2=(zAQ 1 t).2:=fun _=>rfl;have hs:(⟨(zAQ n (zAG 1 s).2).1.toArray⟩:ByteArray).size=(zAQ n (zAG 1 s).2).1.length:=rfl;rw[hs];simp only[g1,g2,g3,Z]at *;omega
theorem zPZ(s:Rs)(h:(zIS s).2.bad=false):s.bad=false:=by
 unfold zIS at h;dsimp only at h;have J:=zC9 _ _ h;have Z:=zAX 1 _ J;have u:=zAX 8 _ Z;have V:=zAX 2 _ u;have O:=zAX _ _ V;exact zAX 1 s O
theorem zNF(s:Rs)(o:Ob)(O:(zBm s).2.bad=false)(u:(zBm s).1=.obj o):(zBm s).2.rest.length+(13+o.name.size+4*o.blk.length)≤s.rest.length:=by
 by_cases J:(zAG 1 s).1=2;{unfold zBm at u;rw[yq J]at u;cases u};{by_cases V:(zAG 1 s).1=1;{have e:zBm s=(.obj (zIS (zAG 1 s).2).1,(zIS (zAG 1 s).2).2):=(by unfold zBm;rw[yl J,yq V]);rw[e]at u O ⊢;injection u with u;subst u;have h3:=zNE _ O;have Z:=zPZ _ O;have h5:=zBH 1 s Z;have g1:(zAG 1 s).2=(zAQ 1 s).2:=rfl;rw[g1]at h3 ⊢;dsimp only;omega};{unfold zBm at u;rw[yl J,yl V]at u;cases u}}
theorem zFU:∀(f:Nat) (s:Rs) (u:Int) (J L:List Ob),zEe f s u J=some L->(L.flatMap (Ob.bytes 1)).length≤(J.flatMap (Ob.bytes 1)).length+s.rest.length
 | 0,_,_,_,_,h=>by simp[zEe]at h
 | f+1,s,u,J,L,h=>by
  unfold zEe at h
  split at h
  ·cases h
  ·rename_i hb
   have O:(zBm s).2.bad=false:=(by simpa using hb);have hl:=zGu s O
   split at h
   ·split at h
    ·cases h;omega
    ·cases h
   ·have:=zFU f _ _ _ _ h;omega
   ·rename_i o ho
    have V:=zFU f _ _ _ _ h;rw[yAL,yB,yBd,List.flatMap_nil,yAQ,Ob.qp]at V;have Z:=zNF s o O ho;omega
theorem zKw{b:List UInt8}(h:zIc b=some L):(zCE L).length≤6+b.length:=by
 have:=zFU _ _ _ _ _ h;rw[zA8];simpa using this
theorem zHb:∀L:List Ob,4*(L.flatMap Ob.blk).length≤(L.flatMap (Ob.bytes 1)).length
 | []=>zs
 | o::L=>by
  have:=zHb L;simp only[yBd,yB,Ob.qp];omega
theorem zGO(bs:ByteArray):∀(k i:Nat) (r:List UInt8),k=bs.size - i->ByteArray.toList.loop bs i r=r.reverse++bs.data.toList.drop i
 | 0,i,r,h=>by
  rw[ByteArray.toList.loop,yl zo];have:=List.drop_eq_nil_of_le (by rw[yBw];show bs.size≤i;omega);rw[this,yAQ]
 | k+1,i,r,h=>by
  have u:i<bs.size:=zo;rw[ByteArray.toList.loop,yq u,zGO bs k (i+1) _ zo];have J:i<bs.data.toList.length:=by rw[yBw];exact u
  have e:=yBg J;have O:bs.get! i=bs.data.toList[i]:=by
   show bs.data[i]! =_;rw[Array.getElem_toList,getElem!_pos bs.data i u]
  rw[e,O];simp
theorem zCs(bs:ByteArray):bs.toList=bs.data.toList:=by
 have h:=zGO bs bs.size 0 [] zo;rw[List.reverse_nil,yAe,yz]at h;exact h
theorem zMw{a b:ByteArray}(h:a.data.toList=b.data.toList):a=b:=by
 obtain⟨⟨x⟩⟩:=a;obtain⟨⟨y⟩⟩:=b;simpa using h
theorem zO9(a b:ByteArray):(a.toList==b.toList)=decide (a=b):=by
 rw[zCs,zCs];by_cases h:a=b;{subst h;simp};{have:a.data.toList≠b.data.toList:=fun e=>h (zMw e);rw[yA h];simpa using this}
end Go.Proofs.YtonfdlhikinldaaGreatDoor
