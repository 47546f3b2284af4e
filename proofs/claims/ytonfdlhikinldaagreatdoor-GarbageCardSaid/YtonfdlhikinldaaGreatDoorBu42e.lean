import Derived.Test.YtonfdlhikinldaaGreatDoorBu40
import Derived.Test.YtonfdlhikinldaaGreatDoorBu41
import Derived.Test.YtonfdlhikinldaaGreatDoorBu15
import Derived.Test.YtonfdlhikinldaaGreatDoorBu21
import Derived.Test.YtonfdlhikinldaaGreatDoorBu27
import Derived.Test.YtonfdlhikinldaaGreatDoorBu10
import Derived.Test.YtonfdlhikinldaaGreatDoorBu34
import Derived.Test.YtonfdlhikinldaaGreatDoorBu16
import Derived.Test.YtonfdlhikinldaaGreatDoorBu38
import Derived.Test.YtonfdlhikinldaaGreatDoorBu32
import Derived.Test.YtonfdlhikinldaaGreatDoorBu14
import Derived.Test.YtonfdlhikinldaaGreatDoorBu42b
import Derived.Test.YtonfdlhikinldaaGreatDoorBu42c
import Derived.Test.YtonfdlhikinldaaGreatDoorBu42d
set_option maxRecDepth 100000
set_option linter.all false
set_option linter.unusedVariables false
set_option maxHeartbeats 16000000
namespace Go.Proofs.YtonfdlhikinldaaGreatDoor
open Go Go.RowKit Go.Proofs Lin Go.Proofs.Tryz
variable {ov lv:Value}{E:List Nat}{n:ByteArray}{L:List Ob}
def putR(D L G:Nat)(s:Ast)(n:ByteArray)(d:List UInt8):Option Nat × Ast:=
 if n.size<1∨16<n.size then(some 6,s)
 else if 1500<d.length then(some 7,s)
 else if zHQ s.L n then(some 8,s)
 else commitA D L G s n d
theorem zOg(h:n.size<1∨16<n.size):zAf L n=(0,some 6):=by unfold zAf;rw[yq h]
theorem zJU(h:¬(n.size<1∨16<n.size))(u:zHQ L n=true):zAf L n=(lbN L n,none):=by unfold zAf;rw[yl h,yq u]
theorem zLZ(h:¬(n.size<1∨16<n.size))(u:¬zHQ L n=true):zAf L n=(lbN L n,some 9):=by unfold zAf;rw[yl h,yl u]
structure zBr (w:zw) (d:List UInt8) (a:Option Addr) (b o c:Nat):Prop where
 addr:0<d.length->a=some ⟨b,o,none⟩
 rd:Rd w b o d.length (rb (lx d))
 kd:0<d.length->Kd w b 5
 cap:d.length≤c
 max:c≤9223372036854775807
theorem zBr.later{w w':zw}{d:List UInt8}{a:Option Addr}{b o c:Nat}(h:zBr w d a b o c)(u:Below w w w'):zBr w' d a b o c:=
 ⟨h.addr,h.rd.later u,fun J=>(h.kd J).later u,h.cap,h.max⟩
theorem zTp(w:zw)(m:Loc)(s:Ast)(n:ByteArray)(d:List UInt8)(da:Option Addr)(db d0 dc:Nat)(b0 b1 b2:Nat)(H:ArE w m s E ov lv)(a5:Bd s)(c5:(zCE s.L).length≤300000)(c7:s.L.length≤100000)
  (h0:Row w b0 0 1 (fun _=>.pointer (zp (m.ar))))(k0:Kd w b0 95)(h1:Row w b1 0 1 (fun _=>.string n))(h2:Row w b2 0 1 (fun _=>.slice da d.length dc))(hd:zBr w d da db d0 dc):
  Calls prog 85 #[b0,b1,b2] w fun e w'=>e=.returned (zAk (putR m.D m.L m.G s n d).1)∧ArR w m E (putR m.D m.L m.G s n d).2 w':=by
 have HH:=zz H;have a2:=zz a5;have d1:=zz hd;have d9:=hd.max;have c9:=hd.cap;obtain⟨dn,b3⟩:=zx d.length;have a0:=zz b3;rw[<-b3]at c9 h2;have c0:w.cell? b0=some (.pointer (zp (m.ar))):=h0.cell 0 zo;have c1:w.cell? b1=some (.string n):=h1.cell 0 zo;have c2:w.cell? b2=some (.slice da dn dc):=h2.cell 0 zo;have H0:=zz (yr h0 k0);have H1:=zz h1;have H2:=zz h2;have HF:=zz (zKD w m s n H a5.srt a5.l);have e6:∀w:World,(binOp .eql 42 (.iface 54 (I 6)) (.iface 54 (I 6))).run prog w=.ok (.bool true) w:=fun w=>(by kernel_rfl);have e9:∀w:World,(binOp .eql 42 (.iface 54 (I 9)) (.iface 54 (I 6))).run prog w=.ok (.bool false) w:=fun w=>(by kernel_rfl);have en:∀w:World,(binOp .eql 42 .nilIface (.iface 54 (I 6))).run prog w=.ok (.bool false) w:=fun w=>(by kernel_rfl);have z9:∀w:World,(binOp .eql 42 (.iface 54 (I 9)) .nilIface).run prog w=.ok (.bool false) w:=fun w=>(by kernel_rfl);have zn:∀w:World,(binOp .eql 42 .nilIface .nilIface).run prog w=.ok (.bool true) w:=fun w=>(by kernel_rfl);clear H a5 h0 k0 h1 h2 hd b3;by_cases u:n.size<1∨16<n.size;{have HR:=zy (putR m.D m.L m.G s n d=(some 6,s)) (by unfold putR;rw[yq u]);rw[zOg u]at HF;have HE:=zy (zAk (some 6)=.iface 54 (I 6)) rfl;clear u;go_enter func85,ntmps85;go_wp2_with (go_at_call 59;refine HF.o.mono ?_;rintro e w1 ⟨rfl,J⟩;rw[HE.o];have O:=zz J;clear J);go_ret;rw[HR.o];exact⟨rfl,HH.o.refl.qx O.o⟩};{by_cases a4:1500<dn;{have HR:=zy (putR m.D m.L m.G s n d=(some 7,s)) (by unfold putR;rw[yl u,<-a0.o,yq a4]);by_cases hh:zHQ s.L n=true;{rw[zJU u hh]at HF;have HE:=zy (zAk none=.nilIface) rfl;clear u hh;go_enter func85,ntmps85;go_upto_region 4 with(go_at_call 59;refine HF.o.mono ?_;rintro e w1 ⟨rfl,J⟩;rw[HE.o];have O:=zz J;clear J);have b5:w1.cell? b2=some (.slice da dn dc):=(H2.o.later O.o).cell 0 zo;go_wp2_with fail;go_ret;rw[HR.o];exact⟨rfl,HH.o.refl.qx O.o⟩};{rw[zLZ u hh]at HF;have HE:=zy (zAk (some 9)=.iface 54 (I 9)) rfl;clear u hh;go_enter func85,ntmps85;go_upto_region 4 with(go_at_call 59;refine HF.o.mono ?_;rintro e w1 ⟨rfl,J⟩;rw[HE.o];have O:=zz J;clear J);have b5:w1.cell? b2=some (.slice da dn dc):=(H2.o.later O.o).cell 0 zo;go_wp2_with fail;go_ret;rw[HR.o];exact⟨rfl,HH.o.refl.qx O.o⟩}};{by_cases hh:zHQ s.L n=true;{have HR:=zy (putR m.D m.L m.G s n d=(some 8,s)) (by unfold putR;rw[yl u,<-a0.o,yl a4,yq hh]);rw[zJU u hh]at HF;have HE:=zy (zAk none=.nilIface) rfl;clear u hh;go_enter func85,ntmps85;go_upto_region 4 with(go_at_call 59;refine HF.o.mono ?_;rintro e w1 ⟨rfl,J⟩;rw[HE.o];have O:=zz J;clear J);have b5:w1.cell? b2=some (.slice da dn dc):=(H2.o.later O.o).cell 0 zo;go_wp2_with fail;go_ret;rw[HR.o];exact⟨rfl,HH.o.refl.qx O.o⟩};{have HR:=zy (putR m.D m.L m.G s n d=commitA m.D m.L m.G s n d) (by unfold putR;rw[yl u,<-a0.o,yl a4,yl hh]);rw[zLZ u hh]at HF;have HE:=zy (zAk (some 9)=.iface 54 (I 9)) rfl;have c3:n.size≤16:=zo;clear u hh;go_enter func85,ntmps85;go_upto_region 4 with(go_at_call 59;refine HF.o.mono ?_;rintro e w1 ⟨rfl,J⟩;rw[HE.o];have O:=zz J;clear J);have b5:w1.cell? b2=some (.slice da dn dc):=(H2.o.later O.o).cell 0 zo;go_upto_region 8 with fail;obtain⟨we,a6⟩:=zx w1.drew;have c4:Below w1 w1 we:=(by rw[a6];exact zA w1);have a1:=zz (O.o.trans (c4.mono O.o.size));have a9:=zz (HH.o.later a1.o);have d2:=a9.o.obs;obtain⟨a,b,c,K,S,rfl,ho⟩:=d2;have HO:=zz ho;obtain⟨ln,a8⟩:=zx s.L.length;have c6:=zz a8;obtain⟨κ,d8,wB,a3,b4⟩:=zK we;have d7:=zz (H0.o.1.later a1.o);have d5:=zz (H1.o.later a1.o);have d3:=zz (H2.o.later a1.o);have y0:∀n,(wB n).cell? b0=some (.pointer (zp (m.ar))):=fun n=>(d7.o.later (a3 n)).cell 0 zo;have y1:∀k,(wB k).cell? b1=some (.string n):=fun k=>(d5.o.later (a3 k)).cell 0 zo;have y2:∀k,(wB k).cell? b2=some (.slice da dn dc):=fun k=>(d3.o.later (a3 k)).cell 0 zo;have y3:∀n,(wB n).cell? (m.ar,10)=some (.slice a ln c):=fun n=>(by rw[c6.o];exact((a9.o.later (a3 n)).a10));clear a8 ho;refine zI [([0,1,2,3,4,5,6,7,8,10],[9])] 11 (fun V=>∃n,V=wB n) zP zk zk (fun c a d v w h=>by cases d<;>exact h) (b4.o _ (by rw[<-a6];exact yh _ _)) ?_;rw[<-a6];clear a6 c4 a3;simp only[zQ];simp only[pick,ym,yo,yAa,yi,yj];change wpQuiet _ _ _ _ (_::_::_::_::_::_::_::_::_::_::[]) _;(repeat(go_big_quiet_step (fail)));refine wpQuiet_nil ?_;clear y0 y1 y2 y3;simp only[zAN,zQ];refine zS (i:=9) rfl rfl ?_;go_wp2_with fail;have a7:Below we we (we.alloc (.cells #[.int .u8 0,.string n,.int .i64 (dn:Int),.int .u64 0,.slice none 0 0] 160)):=(yh _ we).alloc (yb _) _;refine⟨b4.o _ a7,?_⟩;have b9:=Row.lit we #[.int .u8 0,.string n,.int .i64 (dn:Int),.int .u64 0,.slice none 0 0] 160;have b7:=Kd.new we #[.int .u8 0,.string n,.int .i64 (dn:Int),.int .u64 0,.slice none 0 0] 160;have Z:=(d1.o.later a1.o).later a7;have b6:=zL1 we (we.alloc (.cells #[.int .u8 0,.string n,.int .i64 (dn:Int),.int .u64 0,.slice none 0 0] 160)) m s a9.o a7 a b c K S HO.o c5 a2.o.srt c7 a2.o.sp a2.o.bk a2.o.m a2.o.ok n c3 d (by rw[<-a0.o];omega) da db d0 dc Z.addr Z.rd Z.kd Z.cap Z.max we (by rw[<-a0.o];exact b9.congr fun i hi=>by match i,hi with | 0,_ | 1,_ | 2,_ | 3,_ | 4,_=>rfl) b7 (yb _);rw[<-c6.o,<-a0.o]at b6;have d4:=zz b6;clear b6 b9 b7 Z b4 a7;generalize we.alloc (.cells #[.int .u8 0,.string n,.int .i64 (dn:Int),.int .u64 0,.slice none 0 0] 160)=w7 at *;simp only[yu,yz];go_wp2_with (go_at_call 62;refine d4.o.mono ?_;rintro e w4 ⟨rfl,d6⟩);go_ret;rw[HR.o];exact⟨rfl,ArR.ahead a1.o d6⟩}}}
theorem zMe(D L G:Nat)(s:Ast)(n:ByteArray)(d:List UInt8):(commitA D L G s n d).1≠some 13:=by
 unfold commitA;dsimp only;split<;>simp
theorem zSO(D L G:Nat)(s:Ast)(n:ByteArray)(d:List UInt8):(putR D L G s n d).1≠some 13:=by
 unfold putR;split;{simp};{split;{simp};{split;{simp};{exact zMe _ _ _ _ _ _}}}
theorem zUm(w:zw)(m:Loc)(s:Ast)(n:ByteArray)(d:List UInt8)(V:Option Addr)(db d0 J:Nat)(H:ArE w m s E ov lv)(hg:zCt w)(a3:Bd s)(a7:(zCE s.L).length≤300000)(b1:s.L.length≤100000)(hd:zBr w d V db d0 J):
  Calls prog 57 #[m.ar,.string n,.slice V d.length J] w fun e w'=>e=.returned (zAk (putR m.D m.L m.G s n d).1)∧ArR w m E (putR m.D m.L m.G s n d).2 w':=by
 have HH:=zz H;have HG:=zz hg;have b4:=zz a3;have b0:=zz hd;obtain⟨dn,a1⟩:=zx d.length;have b5:=zz a1;rw[<-a1];have a4:Below w w (((w.alloc (.cells #[m.ar] 95)).alloc (.cells #[.string n] 9)).alloc (.cells #[.slice V dn J] 31)):=(((yh w w).alloc (yb _) _).alloc zs _).alloc (by simp;omega) _;have r0:=((Row.lit w #[m.ar] 95).alloc (.cells #[.string n] 9)).alloc (.cells #[.slice V dn J] 31);have q0:=((Kd.new w #[m.ar] 95).alloc (.cells #[.string n] 9)).alloc (.cells #[.slice V dn J] 31);have r1:=(Row.lit (w.alloc (.cells #[m.ar] 95)) #[.string n] 9).alloc (.cells #[.slice V dn J] 31);have r2:=Row.lit ((w.alloc (.cells #[m.ar] 95)).alloc (.cells #[.string n] 9)) #[.slice V dn J] 31;simp only[yw]at r1 r2;have a6:=zz (yr r0 q0);have b2:=zz r1;have a9:=zz r2;have u:=zz a4;have z0:=r0.cell 0 zs;simp only[yc]at z0;clear H a4 r0 r1 r2 q0 a3 a1;go_enter func57,ntmps57;go_upto_region 1 with fail;generalize((w.alloc (.cells #[m.ar] 95)).alloc (.cells #[.string n] 9)).alloc (.cells #[.slice V dn J] 31)=w1 at *;have b7:w1.cell? w=some (.pointer (zp (m.ar))):=z0;have Z:=zz (HH.o.later u.o);have b9:=hg.lt;obtain⟨R,hR⟩:=zx (putR m.D m.L m.G s n d);have a0:=zSO m.D m.L m.G s n d;rw[<-hR]at a0;have a2:=zz hR;have b3:=zz (zFi w1 m.ar Z.o.a12 (HG.o.later u.o) 85 #[] #[.pointer (zp (w.heap.size)),.pointer (zp (w.heap.size+1)),.pointer (zp (w.heap.size+1+1))] #[.pointer (zp (w.heap.size)),.pointer (zp (w.heap.size+1)),.pointer (zp (w.heap.size+1+1))] rfl (fun w=>by kernel_rfl)
  (eX m E) (fun w2=>∃wq,Below w1 w1 wq∧Kd wq w1 42∧ArR wq m E R.2 w2) R.1 a0
  (fun b hb=>Z.o.qz hb) Z.o.jc
  (fun wq O _ hk=>(zTp wq m s n d V db d0 J w (w.heap.size+1) (w.heap.size+1+1) (Z.o.later O) b4.o a7 b1 ((a6.o.1.later O).congr fun i hi=>by match i,hi with | 0,_=>rfl) (a6.o.2.later O) ((b2.o.later O).congr fun i hi=>by match i,hi with | 0,_=>rfl) ((a9.o.later O).congr fun i hi=>by match i,hi with | 0,_=>rw[b5.o];rfl) ((b0.o.later u.o).later O)).mono fun e w2 h=>by
   rw[<-a2.o]at h;exact⟨h.1,h.2.upd,wq,O,hk,h.2⟩))
 have b6:=u.o.size;clear hR z0 a0;go_wp2_with (go_at_call 51;refine b3.o.mono ?_;rintro e w4 ⟨rfl,-,w2,a8,a5⟩;have HW:=zz (yr a8 a5);clear a8 a5);go_ret;obtain⟨⟨wq,O,hk,hr⟩,hu⟩:=HW.o;rw[<-a2.o];exact⟨rfl,ArR.done HH.o u.o O hk hr hu⟩
theorem zQh(D L G:Nat)(s:Ast)(d:Int):(zCS D L G s d).1≠some 13:=by
 unfold zCS;split;{simp};{split;{simp};{have u:∀(o:Option Nat) (l:List (Nat × Nat)) (A:Arr),(healsP D L G o l A).1≠some 13:=fun o l=>(by (induction l with |nil=>(intro A;simp[healsP])|cons x l ih=>(intro A;unfold healsP;split;{exact ih _};{rename_i h;rcases zII (D:=D) (L:=L) (G:=G) (b:=x.1) (q:=x.2) (o:=o) (A:=A)with h2 | h2;{exact absurd h2 h};{rw[h2];simp}})));exact u _ _ _}}
theorem zST(w:zw)(m:Loc)(s:Ast)(O V:Nat)(HE:ArE w m s E ov lv)(a3:s.h.ok)(hl:s.L.length≤1000000)(a0:s.sp.length≤1000001)(a2:∀p∈zBu s.L s.sp,p.1<s.A.m)(d:Int)
  (J:Row w O 0 1 (fun _=>I d))(a1:Kd w O 3)(u:Row w V 0 1 (fun _=>.pointer (zp (m.ar))))(Z:Kd w V 95):
  Calls prog 52 #[O,V] w fun e w'=>e=.returned (zAk (zCS m.D m.L m.G s d).1)∧ArR w m E (zCS m.D m.L m.G s d).2 w':=by
 obtain⟨A,h,Lo,sp⟩:=s;by_cases hd:d<0;{have hr:zCS m.D m.L m.G ⟨A,h,Lo,sp⟩ d=(some 11,⟨A,h,Lo,sp⟩):=(by unfold zCS;rw[yq (.inl hd)]);rw[hr];refine(zQa w O V m.ar m.cb m.kb m.l A m.D m.L m.G m.cv m.β h ov lv .nilIface HE.dsk.arc d (J.cell 0 zo) (u.cell 0 zo) hd).mono ?_;rintro e w' ⟨rfl,hb⟩;exact⟨rfl,HE.refl.qx hb⟩};{obtain⟨n,rfl⟩:∃n:Nat,d=n:=⟨d.toNat,zo⟩;exact zTv w m A h Lo sp O V HE a3 hl a0 a2 n J a1 u Z}
theorem zTw(w:zw)(m:Loc)(s:Ast)(H:ArE w m s E ov lv)(hg:zCt w)(a6:s.h.ok)(hl:s.L.length≤1000000)(b0:s.sp.length≤1000001)(a4:∀p∈zBu s.L s.sp,p.1<s.A.m)(d:Int):
  Calls prog 32 #[m.ar,I d] w fun e w'=>e=.returned (zAk (zCS m.D m.L m.G s d).1)∧ArR w m E (zCS m.D m.L m.G s d).2 w':=by
 have HH:=zz H;have HG:=zz hg;have a8:=zz a6;have a9:=zz a4;have a1:Below w w ((w.alloc (.cells #[m.ar] 95)).alloc (.cells #[I d] 3)):=((yh w w).alloc (yb _) _).alloc zs _;have r0:=(Row.lit w #[m.ar] 95).alloc (.cells #[I d] 3);have q0:=(Kd.new w #[m.ar] 95).alloc (.cells #[I d] 3);have r1:=Row.lit (w.alloc (.cells #[m.ar] 95)) #[I d] 3;have q1:=Kd.new (w.alloc (.cells #[m.ar] 95)) #[I d] 3;rw[yw]at r1 q1;have a5:=zz (yr r0 q0);have a2:=zz (yr r1 q1);have u:=zz a1;have z0:=r0.cell 0 zs;simp only[yc]at z0;clear H a1 r0 r1 q0 q1 a6 a4;go_enter func32,ntmps32;go_upto_region 1 with fail;generalize(w.alloc (.cells #[m.ar] 95)).alloc (.cells #[.int .i64 d] 3)=w1 at *;have b3:w1.cell? w=some (.pointer (zp (m.ar))):=z0;have J:=zz (HH.o.later u.o);have b4:=hg.lt;obtain⟨R,hR⟩:=zx (zCS m.D m.L m.G s d);have V:=zQh m.D m.L m.G s d;rw[<-hR]at V;have a0:=zz hR;have b1:=zz (zFi w1 m.ar J.o.a12 (HG.o.later u.o) 52 #[] #[.pointer (zp (w.heap.size+1)),.pointer (zp (w.heap.size))] #[.pointer (zp (w.heap.size+1)),.pointer (zp (w.heap.size))] rfl (fun w=>by kernel_rfl)
  (eX m E) (fun w2=>∃Z,Below w1 w1 Z∧Kd Z w1 42∧ArR Z m E R.2 w2) R.1 V
  (fun b hb=>J.o.qz hb) J.o.jc
  (fun Z O _ hk=>(zST Z m s (w.heap.size+1) w (J.o.later O) a8.o hl b0 a9.o d ((a2.o.1.later O).congr fun i hi=>by match i,hi with | 0,_=>rfl) (a2.o.2.later O) ((a5.o.1.later O).congr fun i hi=>by match i,hi with | 0,_=>rfl) (a5.o.2.later O)).mono fun e w2 h=>by
   rw[<-a0.o]at h;exact⟨h.1,h.2.upd,Z,O,hk,h.2⟩))
 have b2:=u.o.size;clear hR z0 V;go_wp2_with (go_at_call 51;refine b1.o.mono ?_;rintro e w4 ⟨rfl,-,w2,a7,a3⟩;have HW:=zz (yr a7 a3);clear a7 a3);go_ret;obtain⟨⟨Z,O,hk,hr⟩,hu⟩:=HW.o;rw[<-a0.o];exact⟨rfl,ArR.done HH.o u.o O hk hr hu⟩
theorem zSU(w:zw)(sb:Nat)(m:Loc)(s:Ast)(H:ArE w m s E ov lv)(hs:w.cell? sb=some (.pointer (zp (m.ar))))(Z:zCt w)(J:s.h.ok)(hl:s.L.length≤1000000)(O:s.sp.length≤1000001)(u:∀p∈zBu s.L s.sp,p.1<s.A.m)(d:Int):
  Calls prog 13 #[sb,I d] w fun e w'=>e=.returned (zAk (zCS m.D m.L m.G s d).1)∧ArR w m E (zCS m.D m.L m.G s d).2 w':=by
 have HP:=zz (zTw w m s H Z J hl O u d);clear H Z J u;generalize zCS m.D m.L m.G s d=R at *;go_enter func13,ntmps13;go_wp2_with (go_at_call 32;refine HP.o.mono ?_;rintro e w2 ⟨rfl,V⟩;have HR:=zz V;clear V);go_ret;exact⟨rfl,HR.o⟩
theorem zJh{D L G:Nat}{o:Option Nat}:∀(l:List (Nat × Nat)) (A:Arr),(healsP D L G o l A).1≠some 13
 | [],A=>by simp[healsP]
 | x::l,A=>by
  unfold healsP
  split
  ·exact zJh l _
  ·rename_i h
   rcases zII (D:=D) (L:=L) (G:=G) (b:=x.1) (q:=x.2) (o:=o) (A:=A)with h2 | h2
   ·exact absurd h2 h
   ·rw[h2];simp
theorem zOy(D L G:Nat)(s:Ast):(scrubR D L G s).1≠some 13:=by
 have h:=zJh (D:=D) (L:=L) (G:=G) (o:=none) (zBu s.L s.sp) s.A;unfold scrubR;split;{simp};{rename_i e he;rw[he]at h;exact h}
theorem zT0(w:zw)(m:Loc)(s:Ast)(H:ArE w m s E ov lv)(hg:zCt w)(a4:s.h.ok)(hl:s.L.length≤1000000)(a8:s.sp.length≤1000001):
  Calls prog 41 #[m.ar] w fun e w'=>e=.returned (zAk (scrubR m.D m.L m.G s).1)∧ArR w m E (scrubR m.D m.L m.G s).2 w':=by
 have HH:=zz H;have HG:=zz hg;have a6:=zz a4;have a1:Below w w (w.alloc (.cells #[m.ar] 95)):=(yh w w).alloc (yb _) _;have r0:=Row.lit w #[m.ar] 95;have q0:=Kd.new w #[m.ar] 95;have a3:=zz (yr r0 q0);have u:=zz a1;have z0:=r0.cell 0 zs;simp only[yc]at z0;clear H a1 r0 q0 a4;go_enter func41,ntmps41;go_upto_region 1 with fail;generalize w.alloc (.cells #[m.ar] 95)=w1 at *;have b0:w1.cell? w=some (.pointer (zp (m.ar))):=z0;have J:=zz (HH.o.later u.o);have b1:=hg.lt;obtain⟨R,hR⟩:=zx (scrubR m.D m.L m.G s);have O:=zOy m.D m.L m.G s;rw[<-hR]at O;have a0:=zz hR;have a7:=zz (zFi w1 m.ar J.o.a12 (HG.o.later u.o) 65 #[] #[.pointer (zp (w.heap.size))] #[.pointer (zp (w.heap.size))] rfl (fun w=>by kernel_rfl)
  (eX m E) (fun w2=>∃V,Below w1 w1 V∧Kd V w1 42∧ArR V m E R.2 w2) R.1 O
  (fun b hb=>J.o.qz hb) J.o.jc
  (fun V Z _ hk=>(zTz V m s w (J.o.later Z) a6.o hl a8 ((a3.o.1.later Z).congr fun i hi=>by match i,hi with | 0,_=>rfl) (a3.o.2.later Z)).mono fun e w2 h=>by
   rw[<-a0.o]at h;exact⟨h.1,h.2.upd,V,Z,hk,h.2⟩))
 have a9:=u.o.size;clear hR z0 O;go_wp2_with (go_at_call 51;refine a7.o.mono ?_;rintro e w4 ⟨rfl,-,w2,a5,a2⟩;have HW:=zz (yr a5 a2);clear a5 a2);go_ret;obtain⟨⟨V,Z,hk,hr⟩,hu⟩:=HW.o;rw[<-a0.o];exact⟨rfl,ArR.done HH.o u.o Z hk hr hu⟩
theorem zSb(w:zw)(sb:Nat)(m:Loc)(s:Ast)(H:ArE w m s E ov lv)(hs:w.cell? sb=some (.pointer (zp (m.ar))))(V:zCt w)(u:s.h.ok)(hl:s.L.length≤1000000)(J:s.sp.length≤1000001):
  Calls prog 27 #[sb] w fun e w'=>e=.returned (zAk (scrubR m.D m.L m.G s).1)∧ArR w m E (scrubR m.D m.L m.G s).2 w':=by
 have Z:=zz (zT0 w m s H V u hl J);clear H V u;generalize scrubR m.D m.L m.G s=R at *;go_enter func27,ntmps27;go_wp2_with (go_at_call 41;refine Z.o.mono ?_;rintro e w2 ⟨rfl,O⟩;have HR:=zz O;clear O);go_ret;exact⟨rfl,HR.o⟩
end Go.Proofs.YtonfdlhikinldaaGreatDoor

