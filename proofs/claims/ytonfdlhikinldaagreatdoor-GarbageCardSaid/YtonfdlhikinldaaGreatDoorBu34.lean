import Derived.Test.YtonfdlhikinldaaGreatDoorBu32
import Derived.Test.YtonfdlhikinldaaGreatDoorBu24
import Derived.Test.YtonfdlhikinldaaGreatDoorBu04
import Derived.Test.YtonfdlhikinldaaGreatDoorBu21
import Derived.Test.YtonfdlhikinldaaGreatDoorBu14
import Derived.Test.YtonfdlhikinldaaGreatDoorBu08
import Derived.Test.YtonfdlhikinldaaGreatDoorBu02
import Derived.Test.YtonfdlhikinldaaGreatDoorBu10
import Derived.Test.YtonfdlhikinldaaGreatDoorBu23
import Derived.Test.YtonfdlhikinldaaGreatDoorBu33
import Derived.Test.YtonfdlhikinldaaGreatDoorBu15
set_option maxRecDepth 100000
set_option linter.all false
set_option linter.unusedVariables false
set_option maxHeartbeats 16000000
namespace Go.Proofs.YtonfdlhikinldaaGreatDoor
open Go Go.RowKit Go.Proofs Lin Go.Proofs.Tryz
variable {o:Option (Nat->UInt8)}{T:Nat->Sl}{w w':zw}{b q:Nat}{X:Nat->Prop}{N:Nat}{A:Arr}
def zCM(A:Arr)(b q i:Nat):Option (Nat->UInt8) × Arr:=
 (if(A.qj i b).2.1&&((A.qj i b).1.kind==1&&(decide ((A.qj i b).1.shard=i)&&decide ((A.qj i b).1.seq=q)))then some (A.qj i b).1.data else none,(A.qj i b).2.2)
def zQn:Sl:=⟨none,0,0,0,0,fun _=>0⟩
def ShV(w:zw)(T:Sl):Option (Nat->UInt8)->Prop
 | none=>T=zQn
 | some x=>T.a=some ⟨T.b,T.o,none⟩∧T.n=44∧T.c=44∧T.x=x∧Row w T.b T.o 44 (bs x)∧∃t,Kd w T.b t∧(t=149∨t=5)
theorem ShV.upd{T:Sl}(h:ShV w T o)(J:Upd X w w')(O:∀b,X b->¬Kd w b 149∧¬Kd w b 5):ShV w' T o:=by
 (cases o with |none=>(exact h)|some x=>(obtain⟨h1,h2,h3,h4,h5,t,u,V⟩:=h;have hn:¬X T.b:=fun Z=>(by rcases V with rfl | rfl;{exact(O _ Z).1 u};{exact(O _ Z).2 u});exact⟨h1,h2,h3,h4,h5.upd J fun _=>hn,t,u.upd J hn,V⟩))
def zOz(w:zw)(l:zAK)(A:Arr)(b q i:Nat)(e:Ending)(w':zw):Prop:=
 ∃T:Sl,e=.returned T.v∧ShV w' T (zCM A b q i).1∧zT w' l (zCM A b q i).2∧Upd (· =l.db) w w'
theorem zO0(w:zw)(ar cb kb:Nat)(l:zAK)(A:Arr)(D L G:Nat)(cv:Value)(β:Nat->Nat)(h:Hd)(ov lv bv:Value)(H:zAB w ar cb kb l A D L G cv β h ov lv bv)(b q i:Nat)(hq:q<2^64):
  Calls prog 110 #[ar,.agg #[I b,U64 q],I i] w (zOz w l A b q i):=by
 have b3:0<A.n:=(by rw[H.n];have:=H.right.d1;omega);have Z:Below w w (w.alloc (.cells #[I b,U64 q] 120)):=(yh _ w).alloc (yb _) _;have HS:=zz (Row.lit w #[I b,U64 q] 120);have HA:=zz (H.later Z);have HB:=zz Z;have HO:=zz H.arr.qf;have a5:=zz b3;clear H Z;go_enter func110,ntmps110;go_upto_region 1 with fail;generalize w.alloc (.cells #[.int .i64 b,U64 q] 120)=w1 at *;have s0:w1.cell? w=some (I b):=HS.o.cell 0 zs;have HR:=zz (zIu w1 l A ar i b HA.o.arr a5.o HA.o.wait HA.o.c0);go_upto_region 2 with(first | (go_at_call 97;refine HR.o.mono ?_;rintro e w2 ⟨rfl,a4,V⟩) | (refine zC (g:=fc (A.qj i b).1) rfl 149 (.tmp 7) (.tmp 15) rfl rfl rfl (Row.box w2 47 (fc zD5) 149) zJs (fun i _=>zFo _ i) ?_;intro w3 a1 b0 a3 a7;simp only[Act.put]));have O:=Below.upd ((yh _ w2).alloc (yb _) _) a1 (fun _ h=>h▸yb _) zs;have c0:w2.heap.size<w3.heap.size:=(by rw[b0];simp);have a6:=zz (a4.later O);have b7:=HS.o.lt zs;have b9:=HO.o _ (.inr (.inl ⟨rfl,a5.o⟩));have a9:=zz (((Upd.of_below HB.o).mono (H:=(· =l.db)) (fun _ _ h=>h.elim) |>.trans V (fun _ h _=>h)).trans (Upd.of_below O) (fun _ h _=>h.elim));have b1:=zz ((HS.o.upd V (fun _=>zo)).later O);have u:=zz a7;have a2:=zz (a3 _ _ (Kd.new w2 _ _));have b6:w.heap.size≤w2.heap.size:=(by have:=V.size;omega);clear O a4 V a1 b0 a3 a7 HR HA HB HS s0;obtain⟨f,hf⟩:=zx ((A.qj i b).1);obtain⟨fb,a0⟩:=zx w2.heap.size;obtain⟨c1,b2⟩:∃c,((f.kind.toNat:Int) !=1)=c:=⟨_,rfl⟩;obtain⟨c2,b5⟩:∃c,((f.shard:Int) !=(i:Int))=c:=⟨_,rfl⟩;obtain⟨c3,b4⟩:∃c,((f.seq:Int) !=(q:Int))=c:=⟨_,rfl⟩;have HP:=zz (show zCM A b q i=(if(A.qj i b).2.1&&(!c1&&(!c2&& !c3))then some f.data else none,(A.qj i b).2.2)from by unfold zCM;rw[<-hf];have e1:(f.kind==1)= !c1:=(by rw[<-b2];(cases h:(f.kind==1)with |true=>(have h:f.kind=1:=(by simpa using h);rw[h];rfl)|false=>(have h:f.kind≠1:=(by simpa using h);have:¬(f.kind.toNat:Int)=1:=fun h'=>h (UInt8.toNat_inj.1 (by show f.kind.toNat=1;omega));simp[this])));have e2:decide (f.shard=i)= !c2:=(by rw[<-b5,Bool.eq_iff_iff];simp;omega);have e3:decide (f.seq=q)= !c3:=(by rw[<-b4,Bool.eq_iff_iff];simp;omega);rw[e1,e2,e3]);rw[<-hf]at u;rw[<-a0]at u a2 ⊢;have k0:w3.cell? fb=some (B f.kind):=u.o.cell 0 zo;have k1:w3.cell? (fb,1)=some (I f.shard):=u.o.cell 1 zo;have k2:w3.cell? (fb,2)=some (U64 f.seq):=u.o.cell 2 zo;have s1:w3.cell? (w,1)=some (U64 q):=b1.o.cell 1 zs;have a8:∀T,T=zQn->((A.qj i b).2.1&&(!c1&&(!c2&& !c3)))=false->zOz w l A b q i (.returned T.v) w3:=fun T hT hc=>⟨T,rfl,by rw[HP.o,hc];exact hT,by rw[HP.o];exact a6.o,a9.o⟩;have J:=zz (a8 zQn rfl);clear a8 hf a0;generalize(A.qj i b).2.1=ok at *;(cases ok with |false=>(go_wp2_with fail;go_ret;exact J.o rfl)|true=>((cases c1 with |true=>(go_wp2_with fail;go_ret;exact J.o rfl)|false=>((cases c2 with |true=>(go_wp2_with fail;go_ret;exact J.o rfl)|false=>((cases c3 with |true=>(go_wp2_with fail;go_ret;exact J.o rfl)|false=>(go_wp2_with fail;go_ret;have hr:=u.o.sub (k:=3) (m:=44) zo;rw[yc]at hr;exact⟨⟨some ⟨fb,3,none⟩,fb,3,44,44,f.data⟩,rfl,by rw[HP.o];exact⟨rfl,rfl,rfl,rfl,hr.congr fun j hj=>by unfold fc;rw[yl zo,yl zo,yl zo,yAm],_,a2.o,.inl rfl⟩,by rw[HP.o];exact a6.o,a9.o⟩))))))))
structure Sst where
 sh:Nat->Option (Nat->UInt8)
 tried:Nat
 lost:Nat
 A:Arr
def zEY(A:Arr):Sst:=⟨fun _=>none,0,0,A⟩
def tryP(b q:Nat)(s:Sst)(i:Nat):Sst:=
 if s.tried.testBit i then s
 else⟨fun j=>if j=i then(zCM s.A b q i).1 else s.sh j,s.tried|||2^i,if(zCM s.A b q i).1.isNone then s.lost|||2^i else s.lost,(zCM s.A b q i).2⟩
def zT8(O b q u N tr J:Nat):Nat->Value:=fun i=>([O,I b,U64 q,.slice u N N,U64 tr,U64 J]:List Value).getD i (.bool false)
structure zBT (w:zw) (sb u J b q N:Nat) (T:Nat->Sl) (s:Sst):Prop where
 top:Row w sb 0 6 (zT8 J b q u N s.tried s.lost)
 kd:Kd w sb 205
 rows:Row w u 0 N (fun i=>(T i).v)
 kds:Kd w u 31
 val:∀i,i<N->ShV w (T i) (s.sh i)
 tl:s.tried<2^16
 ll:s.lost<2^16
theorem zBT.upd{sb O Z b q N:Nat}{s:Sst}(h:zBT w sb O Z b q N T s)(V:Upd X w w')(J:∀b,X b->∀t,Kd w b t->t≠205∧t≠31∧t≠149∧t≠5)(A:Arr):zBT w' sb O Z b q N T {s with A:=A}:=
 ⟨h.top.upd V fun _ u=>(J _ u _ h.kd).1 rfl,h.kd.upd V fun u=>(J _ u _ h.kd).1 rfl,h.rows.upd V fun _ u=>(J _ u _ h.kds).2.1 rfl,h.kds.upd V fun u=>(J _ u _ h.kds).2.1 rfl,
  fun i hi=>(h.val i hi).upd V fun b hb=>⟨fun hk=>(J b hb _ hk).2.2.1 rfl,fun hk=>(J b hb _ hk).2.2.2 rfl⟩,h.tl,h.ll⟩
theorem zBT.later{sb u J b q N:Nat}{s:Sst}(h:zBT w sb u J b q N T s)(O:Below w w w'):zBT w' sb u J b q N T s:=h.upd (Upd.of_below O) (fun _ h=>h.elim) s.A
section
variable {w:zw} {sb shb ar b q N:Nat} {T:Nat->Sl} {s:Sst}
theorem zBT.j3(h:zBT w sb shb ar b q N T s)(j:Nat)(v:Value){T':Sl}(u:ShV w T' o):ShV (w.setCell (sb,j) v) T' o:=
 u.upd ((Upd.refl (· =sb) w).qe j v) fun c e=>⟨fun hk=>absurd rfl ((e▸hk:Kd w sb _).ne h.kd zd),fun hk=>absurd rfl ((e▸hk:Kd w sb _).ne h.kd zd)⟩
theorem zBT.ne(h:zBT w sb shb ar b q N T s):shb≠sb:=h.kds.ne h.kd zd
theorem zBT.ji(h:zBT w sb shb ar b q N T s){t:Nat}(J:t<2^16):zBT (w.setCell (sb,4) (U64 t)) sb shb ar b q N T {s with tried:=t}:=by
 have hs:=h.top.set (i:=4) zo (U64 t);rw[yc]at hs;exact⟨hs.congr fun i u=>by match i,u with | 0,_ | 1,_ | 2,_ | 3,_ | 4,_ | 5,_=>rfl,h.kd.set _ _,h.rows.upd ((Upd.refl (· =sb) w).qe 4 _) (fun _=>h.ne),h.kds.set _ _,fun i u=>h.j3 4 _ (h.val i u),J,h.ll⟩
theorem zBT.j4(h:zBT w sb shb ar b q N T s){t:Nat}(J:t<2^16):zBT (w.setCell (sb,5) (U64 t)) sb shb ar b q N T {s with lost:=t}:=by
 have hs:=h.top.set (i:=5) zo (U64 t);rw[yc]at hs;exact⟨hs.congr fun i u=>by match i,u with | 0,_ | 1,_ | 2,_ | 3,_ | 4,_ | 5,_=>rfl,h.kd.set _ _,h.rows.upd ((Upd.refl (· =sb) w).qe 5 _) (fun _=>h.ne),h.kds.set _ _,fun i u=>h.j3 5 _ (h.val i u),h.tl,J⟩
theorem zBT.setRow(h:zBT w sb shb ar b q N T s){i:Nat}(Z:i<N){T':Sl}(ho:ShV w T' o):zBT (w.setCell (shb,i) T'.v) sb shb ar b q N (fun j=>if j=i then T' else T j) {s with sh:=fun j=>if j=i then o else s.sh j}:=by
 have hs:=h.rows.set (i:=i) Z T'.v;rw[yc]at hs;have J:Upd (· =shb) w (w.setCell (shb,i) T'.v):=(Upd.refl _ w).qe i _;have hv:∀{u:Sl} {o1:Option (Nat->UInt8)},ShV w u o1->ShV (w.setCell (shb,i) T'.v) u o1:=fun V=>V.upd J fun c e=>⟨fun hk=>absurd rfl ((e▸hk:Kd w shb _).ne h.kds zd),fun hk=>absurd rfl ((e▸hk:Kd w shb _).ne h.kds zd)⟩;refine⟨h.top.upd J (fun _ e=>h.ne e.symm),h.kd.set _ _,hs.congr fun j O=>?_,h.kds.set _ _,fun j O=>?_,h.tl,h.ll⟩;{by_cases e:j=i;{rw[yq e,yq e]};{rw[yl e,yl e]}};{dsimp only;by_cases e:j=i;{rw[yq e,yq e];exact hv ho};{rw[yl e,yl e];exact hv (h.val j O)}}
end
theorem zT9:(prog.info? 31).map (fun i=>(i.zero,i.size,i.bytes))=some (some (.slice none 0 0),1,24):=by kernel_rfl
theorem zQr(m:Nat)(V:m≤1000000)(w:zw):(Instr.makeSlice 140 (I m) (I m)).run prog w=.ok (.slice w m m) (w.alloc (.cells (madeCells #[.slice none 0 0] m) 31)):=by
 obtain⟨i,O,J,hs,u⟩:=info_parts zT9;have:=run_make (P:=prog) w 140 31 i (.slice none 0 0) underlying140 O J .i64 .i64 (m:Int) (m:Int) zo zo (by rw[u];omega) zo;simpa[hs,Value.cells]using this
theorem zHS(w:zw)(ar cb kb:Nat)(l:zAK)(A:Arr)(D L G:Nat)(cv:Value)(β:Nat->Nat)(h:Hd)(ov lv bv:Value)(H:zAB w ar cb kb l A D L G cv β h ov lv bv)(b q:Nat)(A':Arr):
  Calls prog 81 #[ar,.agg #[I b,U64 q]] w fun e w'=>∃sb a7,e=.returned (.pointer (zp sb))∧zBT w' sb a7 ar b q (D+L+G) (fun _=>zQn) (zEY A')∧Below w w w'∧w.heap.size≤sb∧w.heap.size≤a7:=by
 have h7:=H.right.sum;have a4:Below w w (w.alloc (.cells #[I b,U64 q] 120)):=(yh _ w).alloc (yb _) _;have HS:=zz (Row.lit w #[I b,U64 q] 120);have HA:=zz (H.later a4);have HB:=zz a4;have a8:=zz (fun V=>show Calls prog 8 #[PV D L G] V fun e w'=>e=.returned (I ((D+L+G:Nat):Int))∧Below V.heap.size V w' from by have:=zAJ D L G zo V;rwa[show(D:Int)+L+G=((D+L+G:Nat):Int)by omega]at this);clear H a4;obtain⟨N,hN⟩:=zx (D+L+G);rw[<-hN]at a8 h7 ⊢;clear hN;go_enter func81,ntmps81;go_upto_region 1 with fail;generalize w.alloc (.cells #[.int .i64 b,U64 q] 120)=w1 at *;obtain⟨we,O⟩:=zx w1.drew;have HZ:=zy (zAB we ar cb kb l A D L G cv β h ov lv bv) (by rw[O];exact HA.o.later (zA w1));have a6:=zy (Row we w 0 _ _) (O▸HS.o.drew);have a0:=zy (Below w w we) (by rw[O];exact HB.o.trans ((zA w1).mono HB.o.size));obtain⟨ι,b3,wB,J,a1⟩:=zK we;have y0:∀n,(wB n).cell? w=some (I b):=fun n=>(a6.o.later (J n)).cell 0 zs;have y1:∀n,(wB n).cell? (w,1)=some (U64 q):=fun n=>(a6.o.later (J n)).cell 1 zs;have z1:=fun n=>(HZ.o.later (J n)).c1;have p0:=fun n=>(HZ.o.later (J n)).p0;have p1:=fun n=>(HZ.o.later (J n)).p1;have p2:=fun n=>(HZ.o.later (J n)).p2;refine zI [([0,1,2,3,4,5,6,7,8],[9,10])] 11 (fun V=>∃n,V=wB n) zP zk zk (fun c a d v w h=>by cases d<;>exact h) (a1.o _ (by rw[<-O];exact yh _ _)) ?_;rw[<-O];clear O J HA HS HB;simp only[zQ];simp only[pick,ym,yo,yAa,yi,yj];change wpQuiet _ _ _ _ (_::_::_::_::_::_::_::_::_::[]) _;(repeat(go_big_quiet_step (fail)));refine wpQuiet_nil ?_;simp only[zAN,zQ];refine zS (i:=9) rfl rfl ?_;go_wp2_with fail;refine(a8.o _).mono ?_;rintro e Z ⟨rfl,u⟩;go_wp2_with fail;refine⟨a1.o _ u,?_⟩;have b4:=zQr N zo;have a3:Below Z Z (Z.alloc (.cells (madeCells #[.slice none 0 0] N) 31)):=(yh _ Z).alloc (yb _) _;have a2:=zz (a0.o.trans ((u.trans (a3.mono u.size)).mono a0.o.size));have b0:=zz (a1.o _ (u.trans (a3.mono u.size)));have a9:=zz (Row.js Z #[.slice none 0 0] N 1 (.slice none 0 0) 31 rfl zo (fun i hi=>by match i,hi with | 0,_=>rfl));have b2:=zz (Kd.new Z (madeCells #[.slice none 0 0] N) 31);have b1:w.heap.size≤Z.heap.size:=(by have:=a0.o.size;have:=u.size;omega);rw[Nat.mul_one]at a9;clear u a3 y0 y1 z1 p0 p1 p2 HZ a6 a0 a1;refine zS (i:=10) rfl rfl ?_;go_wp2_with fail;refine⟨b0.o,?_⟩;simp only[yu,yz];generalize Z.alloc (.cells (madeCells #[.slice none 0 0] N) 31)=w7 at *;go_wp2_with fail;go_ret;have a5:Below w7 w7 (w7.alloc (.cells #[ar,I b,U64 q,.slice Z N N,U64 0,U64 0] 205)):=(yh _ w7).alloc (yb _) _;refine⟨w7.heap.size,Z.heap.size,rfl,⟨(Row.lit w7 _ _).congr fun i hi=>by have hi:i<6:=hi;match i,hi with | 0,_ | 1,_ | 2,_ | 3,_ | 4,_ | 5,_=>rfl,Kd.new _ _ _,a9.o.later a5,b2.o.later a5,fun _ _=>rfl,by show(0:Nat)<_;decide,by show(0:Nat)<_;decide⟩,a2.o.trans (a5.mono a2.o.size),a2.o.size,b1⟩
def zMy(J:Nat)(l:zAK)(O N:Nat)(u:Value)(β:Nat->Nat)(c:Nat):Prop:=c=J∨l.own N c∨zLy O N u β c
theorem zAB.qf{w:zw}{J O kb:Nat}{l:zAK}{D L G:Nat}{u:Value}{β:Nat->Nat}{h:Hd}{V Z bv:Value}(H:zAB w J O kb l A D L G u β h V Z bv){c:Nat}(hc:zMy J l O (D+L+G) u β c):c<w.heap.size:=by
 rcases hc with rfl | hc | hc;{exact H.kd.lt};{exact H.arr.qf c (by rwa[H.n])};{exact H.cd.qf c hc}
theorem zAB.apart{O cb kb:Nat}{l:zAK}{D L G:Nat}{J:Value}{β:Nat->Nat}{h:Hd}{ov lv bv:Value}(H:zAB w O cb kb l A D L G J β h ov lv bv)(hu:Upd X w w')(V:∀c,X c->¬zMy O l cb (D+L+G) J β c):zAB w' O cb kb l A D L G J β h ov lv bv:=
 H.kept hu (fun u=>V _ u (.inl rfl)) (fun b Z u=>V _ u (.inr (.inl (by rwa[H.n]at Z)))) (fun b Z u=>V _ u (.inr (.inr Z)))
theorem zIP{s k:Nat}(hs:s<2^16)(hk:k<16):s|||2^k<2^16:=yBJ hs (yAx zo hk)
theorem zFP(x i:Nat)(V:x<2^16)(u:i<16):bits .or .u64 (x:Int) (IntKind.u64.wrap ((2:Int)^i))=((x|||2^i:Nat):Int):=by
 have e:IntKind.u64.wrap ((2:Int)^i)=((2^i:Nat):Int):=(by have J:2^i<2^16:=yAx zo u;have O:(2:Int)^i=((2^i:Nat):Int):=zs;rw[O];exact zAi _ (yAG _) zo);rw[e];have J:2^i<2^16:=yAx zo u;exact(bits_nat .u64 64 zd zAi x (2^i) zo zo).2
theorem ShV.some{w:zw}{T:Sl}(h:ShV w T o):T.a.isSome=o.isSome:=by
 (cases o with |none=>(rw[show T=zQn from h];rfl)|some x=>(rw[h.1];rfl))
theorem zLp(A:Arr)(b q i:Nat):(zCM A b q i).2.n=A.n∧(zCM A b q i).2.wait=A.wait:=zJx A i b
def zQz(w:zw)(sb u J cb kb:Nat)(l:zAK)(D L G:Nat)(O:Value)(β:Nat->Nat)(h:Hd)(V Z bv:Value)(b q:Nat)(s:Sst)(i:Nat)(e:Ending)(w':zw):Prop:=
 ∃T',e=.returned (.bool ((tryP b q s i).sh i).isSome)∧zBT w' sb u J b q (D+L+G) T' (tryP b q s i)∧zAB w' J cb kb l (tryP b q s i).A D L G O β h V Z bv∧Upd (fun c=>c=l.db∨c=sb∨c=u) w w'
theorem zSq(w:zw)(sb u ar cb kb:Nat)(l:zAK)(D L G:Nat)(cv:Value)(β:Nat->Nat)(h:Hd)(ov lv bv:Value)(b q:Nat)(T:Nat->Sl)(s:Sst)(H:zAB w ar cb kb l s.A D L G cv β h ov lv bv)(S:zBT w sb u ar b q (D+L+G) T s)(hq:q<2^64)(i:Nat)(hi:i<D+L+G)
  (h1:¬zMy ar l cb (D+L+G) cv β sb)(h2:¬zMy ar l cb (D+L+G) cv β u):
  Calls prog 82 #[sb,I i] w (zQz w sb u ar cb kb l D L G cv β h ov lv bv b q s i):=by
 have h7:=H.right.sum;have HH:=zz H;have HS:=zz S;have t3:w.cell? (sb,4)=some (U64 s.tried):=S.top.cell 4 zo;have d5:=S.tl;have Z:=zz (zSc s.tried i zo zo w);clear H S;(cases hb:s.tried.testBit i with |true=>(rw[hb]at Z;have e1:tryP b q s i=s:=(by unfold tryP;rw[yq hb]);have s2:w.cell? (sb,3)=some (.slice u (D+L+G) (D+L+G)):=HS.o.top.cell 3 zo;have r1:w.cell? (u,i)=some (T i).v:=(by have:=HS.o.rows.cell i hi;rwa[yc]at this);have i1:(i:Int)<((D+L+G:Nat):Int):=zo;have hv:=(HS.o.val i hi).some;have HR:=zy (∀e,e=.returned (.bool (s.sh i).isSome)->zQz w sb u ar cb kb l D L G cv β h ov lv bv b q s i e w) (fun e he=>⟨T,by rw[e1];exact he,by rw[e1];exact HS.o,by rw[e1];exact HH.o,Upd.refl _ _⟩);rw[<-hv]at HR;clear hv e1;go_enter func82,ntmps82;go_wp2_with (go_at_call 109;refine Z.o.mono ?_;rintro e w' ⟨rfl,rfl⟩);go_ret;exact HR.o _ rfl)|false=>(rw[hb]at Z;have HE:=zz (show tryP b q s i=⟨fun j=>if j=i then(zCM s.A b q i).1 else s.sh j,s.tried|||2^i,if(zCM s.A b q i).1.isNone then s.lost|||2^i else s.lost,(zCM s.A b q i).2⟩from by unfold tryP;rw[yl (by rw[hb];decide)]);have d0:=zz (zFP s.tried i d5 zo);have f3:w.frozen? (sb,4)=false:=HS.o.top.free 4 zo;clear hb;go_enter func82,ntmps82;go_upto_region 2 with(go_at_call 109;refine Z.o.mono ?_;rintro e w' ⟨rfl,rfl⟩);rename World=>w;refine zX 9 (fun V=>∃n,V=w.drewN n) zP zk ⟨1,rfl⟩ ?_;simp only[yy,yE,yu,yz];(repeat(go_big_quiet_step (fail)));refine wpQuiet_nil ?_;rintro _ ⟨nq,rfl⟩;rw[d0.o];have J:Below w w (w.drewN nq):=below_drewN (yh _ w) nq;have c7:=zz (HH.o.later J);have a6:=zz (HS.o.later J);have d3:=zz ((Upd.of_below J).mono (H:=fun c=>c=l.db∨c=sb∨c=u) fun _ _ h=>h.elim);clear J t3 f3 Z d0 HH HS;generalize w.drewN nq=w1 at *;have t3:w1.cell? (sb,4)=some (U64 s.tried):=a6.o.top.cell 4 zo;have f3:w1.frozen? (sb,4)=false:=a6.o.top.free 4 zo;go_upto_region 3 with fail;have b2:=zz (a6.o.ji (zIP d5 (show i<16 by omega)));have b6:Upd (· =sb) w1 (w1.setCell (sb,4) (U64 (s.tried|||2^i))):=(Upd.refl (· =sb) w1).qe 4 _;have a2:=zz (c7.o.apart b6 (fun c e=>e▸h1));have c6:=zz (d3.o.trans b6 (fun c e _=>.inr (.inl e)):Upd (fun c=>c=l.db∨c=sb∨c=u) w (w1.setCell (sb,4) (U64 (s.tried|||2^i))));clear b6 t3 f3 c7 a6 d3;generalize w1.setCell (sb,4) (.int .u64 ((s.tried|||2^i:Nat):Int))=w2 at *;have d6:=zz (zO0 w2.drew ar cb kb l s.A D L G cv β h ov lv bv (a2.o.later (zA w2)) b q i hq);have d4:l.db≠sb:=fun e=>h1 (.inr (.inl (e▸.inr (.inl ⟨rfl,zo⟩))));have c9:l.db≠u:=fun e=>h2 (.inr (.inl (e▸.inr (.inl ⟨rfl,zo⟩))));obtain⟨κ,e0,wB,d1,b7⟩:=zH (· =l.db) w2;have a3:=fun n=>b2.o.top.upd (d1 n) (fun _ e=>d4 e.symm);have y0:∀n,(wB n).cell? sb=some (.pointer (zp ar)):=fun n=>(a3 n).cell 0 zo;have y1:∀n,(wB n).cell? (sb,1)=some (I b):=fun n=>(a3 n).cell 1 zo;have y2:∀n,(wB n).cell? (sb,2)=some (U64 q):=fun n=>(a3 n).cell 2 zo;have y3:∀n,(wB n).cell? (sb,3)=some (.slice u (D+L+G) (D+L+G)):=fun n=>(a3 n).cell 3 zo;have i1:(i:Int)<((D+L+G:Nat):Int):=zo;have i2:(i:Int)<D+L+G:=zo;clear a3 d1;refine zI [([0,1,2,3,4,5,6,7,8,9,10,11,12,13],[14])] 15 (fun V=>∃n,V=wB n) zP zk zk (fun c a d v w h=>by cases d<;>exact h) (b7.o _ ((Upd.of_below (zA w2)).mono fun _ _ h=>h.elim)) ?_;simp only[zQ];simp only[pick,ym,yo,yAa,yi,yj];change wpQuiet _ _ _ _ (_::_::_::_::_::_::_::_::_::_::_::_::_::_::[]) _;(repeat(go_big_quiet_step (fail)));refine wpQuiet_nil ?_;simp only[zAN,zQ];refine zS (i:=14) rfl rfl ?_;go_wp2_with fail;refine d6.o.mono ?_;rintro e w3 ⟨T',rfl,b5,d2,c3⟩;go_wp2_with fail;have a0:=(Upd.of_below (zA w2)).mono (fun _ _ h=>h.elim) |>.trans c3 (fun _ h _=>h);have c1:l.own s.A.n l.db:=.inr (.inl ⟨rfl,by have:=a2.o.n;omega⟩);have a8:∀t,Kd w2 l.db t->t=91:=fun t ht=>(by rcases Nat.decEq t 91 with hne | he;{exact absurd rfl (ht.ne (a2.o.arr.kdb (by have:=a2.o.n;omega)) hne)};{exact he});refine⟨b7.o _ a0,?_⟩;have b0:=a2.o.qh a0 (fun c e=>e▸c1) d2 (zLp _ _ _ _).1 (zLp _ _ _ _).2;have a1:=b2.o.upd a0 (fun c e t ht=>by have:=a8 t (e▸ht);subst this;decide) (zCM s.A b q i).2;have r1:w3.cell? (u,i)=some (T i).v:=(by have:=a1.rows.cell i hi;rwa[yc]at this);have r2:w3.frozen? (u,i)=false:=(by have:=a1.rows.free i hi;rwa[yc]at this);have b3:=zz (b0.apart ((Upd.refl (· =u) w3).qe i T'.v) (fun c e=>e▸h2));have O:=zz (a1.setRow hi b5);have b9:=zz ((c6.o.trans a0 (fun c e _=>.inl e)).trans ((Upd.refl (· =u) w3).qe i T'.v) (fun c e _=>.inr (.inr e)):Upd (fun c=>c=l.db∨c=sb∨c=u) w (w3.setCell (u,i) T'.v));have a4:=zz b5.some;clear b0 a1 b5 d2 c3 a0 c1 a8 d6 a2 b2 c6 b7 y0 y1 y2 y3 d4 c9;simp only[yu,yz];go_upto_region 4 with fail;generalize w3.setCell (u,i) (.slice T'.a T'.n T'.c)=w4 at *;have y3:w4.cell? (sb,3)=some (.slice u (D+L+G) (D+L+G)):=O.o.top.cell 3 zo;have r1:w4.cell? (u,i)=some (.slice T'.a T'.n T'.c):=(by have:=O.o.rows.cell i hi;rwa[yc,yq rfl]at this);obtain⟨o,ho⟩:=zx ((zCM s.A b q i).1);rw[<-ho]at a4 HE O;have a9:s.lost<2^16:=O.o.ll;have d9:=fun W=>zUo T'.a T'.n T'.c W;(cases o with |some x=>(have ha:T'.a.isSome=true:=a4.o;have hn:T'.a.isNone=false:=(by rw[<-Option.not_isSome,ha];rfl);have HR:=zy (∀e,e=.returned (.bool true)->zQz w sb u ar cb kb l D L G cv β h ov lv bv b q s i e w4) (fun e he=>⟨_,by rw[HE.o,he];simp,by rw[HE.o];exact O.o,by rw[HE.o];exact b3.o,b9.o⟩);clear a4 HE;go_wp2_with fail;go_ret;exact HR.o _ (by first | rfl | (simp[ha])))|none=>(have ha:T'.a.isSome=false:=a4.o;have hn:T'.a.isNone=true:=(by rw[<-Option.not_isSome,ha];rfl);rw[hn]at d9;go_upto_region 5 with fail;have c5:=zz (zFP s.lost i a9 zo);have l5:w4.cell? (sb,5)=some (U64 s.lost):=O.o.top.cell 5 zo;refine zX 9 (fun V=>∃n,V=w4.drewN n) zP zk ⟨1,rfl⟩ ?_;simp only[yy,yE,yu,yz];(repeat(go_big_quiet_step (fail)));refine wpQuiet_nil ?_;rintro _ ⟨a5,rfl⟩;rw[c5.o];have J:Below w4 w4 (w4.drewN a5):=below_drewN (yh _ w4) a5;have c4:=zz (b3.o.later J);have a7:=zz (O.o.later J);have c0:=zz (b9.o.trans (Upd.of_below J) (fun _ h _=>h.elim):Upd (fun c=>c=l.db∨c=sb∨c=u) w (w4.drewN a5));clear J y3 r1 l5 c5 b3 O b9;generalize w4.drewN a5=w5 at *;have t5:w5.cell? (sb,5)=some (U64 s.lost):=a7.o.top.cell 5 zo;have f5:w5.frozen? (sb,5)=false:=a7.o.top.free 5 zo;go_upto_region 6 with fail;have b1:=zz (a7.o.j4 (zIP a9 (show i<16 by omega)));have b4:Upd (· =sb) w5 (w5.setCell (sb,5) (U64 (s.lost|||2^i))):=(Upd.refl (· =sb) w5).qe 5 _;have d8:=zz (c4.o.apart b4 (fun c e=>e▸h1));have d7:=zz (c0.o.trans b4 (fun c e _=>.inr (.inl e)):Upd (fun c=>c=l.db∨c=sb∨c=u) w (w5.setCell (sb,5) (U64 (s.lost|||2^i))));clear b4 t5 f5 c4 a7 c0;generalize w5.setCell (sb,5) (.int .u64 ((s.lost|||2^i:Nat):Int))=w6 at *;have y3:w6.cell? (sb,3)=some (.slice u (D+L+G) (D+L+G)):=b1.o.top.cell 3 zo;have r1:w6.cell? (u,i)=some (.slice T'.a T'.n T'.c):=(by have:=b1.o.rows.cell i hi;rwa[yc,yq rfl]at this);have HR:=zy (∀e,e=.returned (.bool false)->zQz w sb u ar cb kb l D L G cv β h ov lv bv b q s i e w6) (fun e he=>⟨_,by rw[HE.o,he];simp,by rw[HE.o];exact b1.o,by rw[HE.o];exact d8.o,d7.o⟩);clear a4 HE;go_wp2_with fail;go_ret;exact HR.o _ (by first | rfl | (simp[ha]))))))
def loadsP(b q:Nat)(t:Sst × Bool)(l:List Nat):Sst × Bool:=l.foldl (fun t i=>(tryP b q t.1 i,t.2&&((tryP b q t.1 i).sh i).isSome)) t
def zBk(b q:Nat)(t:Sst × Bool)(P:List Stp):Sst × Bool:=P.foldl (fun t x=>if x.k.toNat=0 then(tryP b q t.1 x.b.toNat,t.2&&((tryP b q t.1 x.b.toNat).sh x.b.toNat).isSome)else t) t
theorem zGE(b q:Nat)(t:Sst × Bool)(P:List Stp)(x:Stp):zBk b q t (P++[x])=if x.k.toNat=0 then(tryP b q (zBk b q t P).1 x.b.toNat,(zBk b q t P).2&&((tryP b q (zBk b q t P).1 x.b.toNat).sh x.b.toNat).isSome)else zBk b q t P:=by
 unfold zBk;rw[yBs];rfl
theorem zGF(b q:Nat):∀(P:List Stp) (t:Sst × Bool),(∀x∈P,x.k.toNat≠0)->zBk b q t P=t
 | [],_,_=>rfl
 | x::P,t,h=>by
  unfold zBk;rw[List.foldl_cons,yl (h x (yAc ..))];exact zGF b q P t fun y u=>h y (yU _ u)
theorem zJZ(b q:Nat)(t:Sst × Bool):∀R:List Nat,zBk b q t (zA3 R)=loadsP b q t R:=by
 refine zFI (P:=fun R=>zBk b q t (zA3 R)=loadsP b q t R) rfl fun l a u=>?_;rw[zDt,zGE,u,yq (show(0:UInt8).toNat=0 by decide)];unfold loadsP;rw[yBs];rfl
theorem zKY(b q:Nat)(t:Sst × Bool)(D L N x:Nat):zBk b q t (zAF D L N x)=loadsP b q t (zAV D L N x):=by
 have e:∀P Q,zBk b q t (P++Q)=zBk b q (zBk b q t P) Q:=fun P Q=>(by unfold zBk;rw[yBs]);rw[zAF,e,zJZ];refine zGF _ _ _ _ fun s hs=>?_;obtain⟨u,_,(⟨j,_,c,rfl⟩ | rfl)⟩:=zFf hs;{show(1:UInt8).toNat≠0;decide};{show(2:UInt8).toNat≠0;decide}
def bytesOf(sh:Nat->Option (Nat->UInt8))(i:Nat):Nat->UInt8:=(sh i).getD fun _=>0
def zEr(D L N x:Nat)(sh:Nat->Option (Nat->UInt8))(i:Nat):Nat->UInt8:=fun t=>dot (zAV D L N x).length (fun j=>bytesOf sh ((zAV D L N x).getD j 0) t) (byV D L (zAV D L N x) i)
def zCr(D L N x k:Nat)(s:Sst):Sst:={s with sh:=fun i=>if i∈(zAx N x).take k then some (zEr D L N x s.sh i)else s.sh i}
def zHK(D L N x:Nat)(s:Sst):Sst:={s with sh:=fun i=>if i∈zAx N x then some (zEr D L N x s.sh i)else s.sh i}
theorem zKZ(D L N x:Nat)(s:Sst):zCr D L N x (zAx N x).length s=zHK D L N x s:=by unfold zCr;rw[yAD];rfl
theorem zJa(D L N x:Nat)(s:Sst):zCr D L N x 0 s=s:=by unfold zCr;simp
theorem zJb(D L N x k:Nat)(s:Sst)(hk:k<(zAx N x).length):zCr D L N x (k+1) s={zCr D L N x k s with sh:=fun j=>if j=(zAx N x).getD k 0 then some (zEr D L N x s.sh ((zAx N x).getD k 0))else(zCr D L N x k s).sh j}:=by
 have e:(zAx N x).take (k+1)=(zAx N x).take k++[(zAx N x).getD k 0]:=(by rw[yg,yx hk];simp);unfold zCr;rw[e];congr 1
 funext j
 by_cases h:j=(zAx N x).getD k 0;{rw[yq h,yq (by rw[h];simp),h]};{rw[yl h];have:(j∈(zAx N x).take k++[(zAx N x).getD k 0])↔j∈(zAx N x).take k:=(by rw[yAr,yJ];exact⟨fun h'=>h'.resolve_right h,.inl⟩);simp only[this]}
def unl(N x:Nat):Nat:=(sel N fun i=> !x.testBit i).length
def repP(D L G b q:Nat):Nat->Sst->Sst × Bool
 | 0,s=>(s,false)
 | f+1,s=>if s.lost=0 then(s,true)else if zEi D L G s.lost=false then(s,false)else
  if(loadsP b q (s,true) (zAV D L (D+L+G) s.lost)).2 then(zHK D L (D+L+G) s.lost (loadsP b q (s,true) (zAV D L (D+L+G) s.lost)).1,true)else repP D L G b q f (loadsP b q (s,true) (zAV D L (D+L+G) s.lost)).1
structure zB6 (N:Nat) (s:Sst):Prop where
 lt:s.lost<2^N
 sub:∀i,s.lost.testBit i=true->s.tried.testBit i=true
 is:∀i,s.tried.testBit i=true->s.lost.testBit i=(s.sh i).isNone
theorem zB6.start(N:Nat)(A:Arr):zB6 N (zEY A):=⟨Nat.pow_pos zd,fun i h=>by simp[zEY]at h,fun i h=>by simp[zEY]at h⟩
theorem zB6.try{s:Sst}(h:zB6 N s)(b q i:Nat)(Z:i<N):zB6 N (tryP b q s i):=by
 unfold tryP;by_cases V:s.tried.testBit i=true;{rw[yq V];exact h};{rw[yl V];have O:s.lost.testBit i=false:=(by (cases O:s.lost.testBit i with |false=>(rfl)|true=>(exact absurd (h.sub i O) V)));refine⟨?_,fun j u=>?_,fun j u=>?_⟩;{dsimp only;split;{exact yBJ h.lt (yAx zo Z)};{exact h.lt}};{dsimp only at u ⊢;rw[yAI,yAH];by_cases e:i=j;{simp[e]};{have J:s.lost.testBit j=true:=(by split at u;{rw[yAI,yAH]at u;simpa[e]using u};{exact u});rw[h.sub j J];rfl}};{dsimp only at u ⊢;rw[yAI,yAH]at u;by_cases e:j=i;{subst e;rw[yq rfl];split;{rename_i h1;rw[yAI,yAH,h1];simp};{rename_i h1;rw[O];exact(Bool.eq_false_iff.2 h1).symm}};{rw[yl e];have J:s.tried.testBit j=true:=(by simpa[yBo e]using u);rw[<-h.is j J];split;{rw[yAI,yAH];simp[yBo e]};{rfl}}}}
theorem zGG{s:Sst}(h:zB6 N s)(b q i:Nat)(J:i<N):(tryP b q s i).tried.testBit i=true:=by
 unfold tryP;by_cases u:s.tried.testBit i=true;{rw[yq u];exact u};{rw[yl u];dsimp only;rw[yAI,yAH];simp}
theorem zQc(b q:Nat)(s:Sst)(i j:Nat)(h:s.lost.testBit j=true):(tryP b q s i).lost.testBit j=true:=by
 unfold tryP;split;{exact h};{dsimp only;split;{rw[yAI,h];rfl};{exact h}}
theorem zRN{p q:Nat->Bool}(h:∀i,p i=true->q i=true):∀n,(sel n p).length≤(sel n q).length
 | 0=>yb _
 | n+1=>by
  have:=zRN h n;rw[zAY,zAY];by_cases e:p n=true
  ·rw[yq e,yq (h n e)];simp;omega
  ·rw[yl e];split
   ·simp;omega
   ·exact this
theorem zLb{p q:Nat->Bool}(h:∀i,p i=true->q i=true){k:Nat}(O:p k=false)(J:q k=true):∀n,k<n->(sel n p).length<(sel n q).length
 | 0,hk=>zo
 | n+1,hk=>by
  rw[zAY,zAY];by_cases e:n=k
  ·subst e;rw[yl (by rw[O];decide),yq J];have:=zRN h n;simp;omega
  ·have:=zLb h O J n zo;by_cases u:p n=true
   ·rw[yq u,yq (h n u)];simp;omega
   ·rw[yl u];split
    ·simp;omega
    ·exact this
theorem zRO(N x:Nat):unl N x≤N:=zAw _ _
theorem zQd{N x y k:Nat}(h:∀i,x.testBit i=true->y.testBit i=true)(hk:k<N)(O:x.testBit k=false)(J:y.testBit k=true):unl N y<unl N x:=
 zLb (fun i u=>by
  cases e:x.testBit i with
  | false=>rfl
  | true=>rw[h i e]at u;cases u) (by rw[J];rfl) (by rw[O];rfl) N hk
theorem zEV:∀(l:List Nat) (t:Sst × Bool),zB6 N t.1->(∀i∈l,i<N)->
  zB6 N (loadsP b q t l).1∧(∀j,t.1.lost.testBit j=true->(loadsP b q t l).1.lost.testBit j=true)∧(t.2=false->(loadsP b q t l).2=false)∧
  (t.2=true->(loadsP b q t l).2=false->∃k∈l,(loadsP b q t l).1.lost.testBit k=true)
 | [],t,h,_=>⟨h,fun _ h=>h,fun h=>h,fun J u=>by rw[show(loadsP b q t []).2=t.2 from rfl,J]at u;cases u⟩
 | i::l,t,h,hl=>by
  have hi:=hl i (yAc ..);have J:=h.try b q i hi;obtain⟨a1,Z,a3,a4⟩:=zEV l (tryP b q t.1 i,t.2&&((tryP b q t.1 i).sh i).isSome) J fun j O=>hl j (yU _ O);refine⟨a1,fun j O=>Z j (zQc _ _ _ _ _ O),fun u=>a3 (by rw[u];rfl),fun u h3=>?_⟩
  cases hs:((tryP b q t.1 i).sh i).isSome with
  | true=>
   obtain⟨k,hk,V⟩:=a4 (by rw[u,hs];rfl) h3;exact⟨k,yU _ hk,V⟩
  | false=>
   refine⟨i,yAc ..,Z i ?_⟩;rw[J.is i (zGG h b q i hi)]
   cases e:(tryP b q t.1 i).sh i with
   | none=>rfl
   | some x=>rw[e]at hs;cases hs
theorem zMk(b q:Nat)(s:Sst)(i j:Nat){x:Nat->UInt8}(h:(s.sh j)=some x)(u:s.tried.testBit j=true):(tryP b q s i).sh j=some x∧(tryP b q s i).tried.testBit j=true:=by
 unfold tryP;by_cases J:s.tried.testBit i=true;{rw[yq J];exact⟨h,u⟩};{rw[yl J];dsimp only;rw[yl (fun e:j=i=>J (e▸u)),yAI,u];exact⟨h,rfl⟩}
theorem zDN:∀(l:List Nat) (t:Sst × Bool) (j:Nat),(t.1.sh j).isSome=true->t.1.tried.testBit j=true->((loadsP b q t l).1.sh j).isSome=true
 | [],t,j,h,_=>h
 | i::l,t,j,h,ht=>by
  obtain⟨x,O⟩:=Option.isSome_iff_exists.1 h;obtain⟨u,J⟩:=zMk b q t.1 i j O ht;exact zDN l _ j (by rw[u];rfl) J
theorem zHL:∀(l:List Nat) (t:Sst × Bool),zB6 N t.1->(∀i∈l,i<N)->(loadsP b q t l).2=true->∀i∈l,((loadsP b q t l).1.sh i).isSome=true
 | [],_,_,_,_,_,h=>by cases h
 | i::l,t,h,hl,hw,j,J=>by
  have Z:=hl i (yAc ..);have O:=h.try b q i Z;have u:=fun j J=>hl j (yU _ J);have V:(t.2&&((tryP b q t.1 i).sh i).isSome)=true:=by
   cases e:(t.2&&((tryP b q t.1 i).sh i).isSome)with
   | true=>rfl
   | false=>
    have:=(zEV (b:=b) (q:=q) l (tryP b q t.1 i,t.2&&((tryP b q t.1 i).sh i).isSome) O u).2.2.1 e;rw[show loadsP b q t (i::l)=loadsP b q (tryP b q t.1 i,t.2&&((tryP b q t.1 i).sh i).isSome) l from rfl,this]at hw
    cases hw
  rcases List.mem_cons.1 J with rfl | J
  ·simp only[yD]at V;exact zDN l _ j V.2 (zGG h b q j Z)
  ·exact zHL l _ O u hw j J
theorem zSR{D L G i:Nat}(h1:1≤D)(h2:D≤12)(h3:1≤L)(Z:D % L=0)(h7:D+L+G≤16)(hi:i<D+L+G):∃j,j<D∧zN D L i j≠0:=by
 by_cases J:i<D;{exact⟨i,J,by unfold zN;rw[yq J,yq rfl];decide⟩}
 ·by_cases O:i<D+L
  ·have u:D / L*L=D:=(by have:=yBu D L;rw[Z,yAk,yAW]at this;exact this);have V:0<D / L:=(by rcases yAF (D / L)with e | e;{rw[e,yAZ]at u;omega};{exact e});refine⟨(i - D)*(D / L),?_,?_⟩
   ·calc (i - D)*(D / L)<L*(D / L):=Nat.mul_lt_mul_of_pos_right zo V
     _=D:=by rw[yAW];exact u
   {unfold zN;rw[yl J,yq O,Nat.mul_div_cancel _ V,yq zo];decide}
  {refine⟨0,zo,?_⟩;unfold zN;rw[yl J,yl O];refine Gf.inv_ne ?_;rw[Nat.xor_zero];intro e;have:=yBx UInt8.toNat e;rw[yAl]at this;have:(i - L) % 2^8=0:=this;omega}
theorem zMl{D L G x:Nat}(h1:1≤D)(h2:D≤12)(Z:1≤L)(h6:D % L=0)(h7:D+L+G≤16)(hd:zEi D L G x=true)(hx:x<2^(D+L+G))(h0:x≠0):0<(zAV D L (D+L+G) x).length:=by
 have J:=(zFH h1 h2 Z h6 h7 hd).spans;rcases yAF (zAV D L (D+L+G) x).length with e | e;(case inr=>exact e);have e:sel (D+L+G) (zBJ D L (D+L+G) x).testBit=[]:=List.length_eq_zero_iff.1 e;rw[e]at J;obtain⟨i,V⟩:∃i,x.testBit i=true:=Nat.exists_testBit_of_ne_zero h0;have u:i<D+L+G:=(by rcases Nat.lt_or_ge i (D+L+G)with h | h;{exact h};{rw[yBy (yI hx (yM zo h))]at V;cases V});have hs:=J i (zY.2 ⟨u,V⟩);obtain⟨j,hj,O⟩:=zSR h1 h2 Z h6 h7 u;have hz:∀v,Sp (RL D (zN D L) []) v->∀j,v j=0:=fun v h=>(by (induction h with |zero=>(intro j;rfl)|step c J hv ih=>(obtain⟨k,hk,_⟩:=J;cases hk)));have:=hz _ hs j;unfold tr at this;rw[yq hj]at this;exact absurd this O
theorem zLc{S:Nat->Stp}{here:Nat->Prop}{hs:Nat->Nat}{c:Nat}(hc:c≤4096):∀{n:Nat},(∀i,i<n->(S i).k.toNat=0->here (S i).b.toNat∧hs (S i).b.toNat=c)->zBt S here hs n∧(zAC S hs n=-1∨zAC S hs n=c)
 | 0,_=>⟨fun i hi=>absurd hi zo,.inl rfl⟩
 | n+1,h=>by
  obtain⟨V,J⟩:=zLc hc (n:=n) fun i hi=>h i zo;by_cases e:(S n).k.toNat=0
  ·have O:=h n zo e;have u:zAC S hs (n+1)=c:=by
    rw[zAC];by_cases Z:zAC S hs n<0
    ·rw[yq ⟨e,Z⟩,O.2]
    ·rw[yl fun h=>Z h.2];rcases J with J | J
     ·omega
     ·exact J
   exact⟨V.next fun _=>⟨O.1,by rw[u,O.2],by rw[u];omega⟩,.inr u⟩
  ·have u:zAC S hs (n+1)=zAC S hs n:=(by rw[zAC,yl fun h=>e h.1]);exact⟨V.next fun h=>absurd h e,by rw[u];exact J⟩
theorem zLd{D L N x i:Nat}(V:i<(zAF D L N x).length)(hk:((zAF D L N x).getD i Sd).k.toNat=0):((zAF D L N x).getD i Sd).b.toNat∈zAV D L N x:=by
 have J:=zFg V;generalize(zAF D L N x).getD i Sd=s at *;unfold zAF at J;rcases List.mem_append.1 J with J | J;{obtain⟨t,O,rfl⟩:=zG0 J;simp only[yAy];exact zCB O};{obtain⟨u,_,(⟨j,_,c,rfl⟩ | rfl)⟩:=zFf J;{exact absurd hk zs};{exact absurd hk zs}}
theorem zSS{D L N x:Nat}(h:∀i∈zAV D L N x,(T i).a≠none∧(T i).n=44)(h0:0<(zAV D L N x).length):
  zBt (fun t=>(zAF D L N x).getD t Sd) (zIH T) (zEu T) (zAF D L N x).length∧zTx (fun t=>(zAF D L N x).getD t Sd) T (zAF D L N x).length=44:=by
 obtain⟨J,h2⟩:=zLc (S:=fun t=>(zAF D L N x).getD t Sd) (here:=zIH T) (hs:=zEu T) (c:=44) zo (n:=(zAF D L N x).length) fun i Z hk=>h _ (zLd Z hk);refine⟨J,?_⟩;have u:0<(zAF D L N x).length∧((zAF D L N x).getD 0 Sd).k.toNat=0:=(by unfold zAF zA3;generalize zAV D L N x=R at *;obtain⟨m,hm⟩:∃m,R.length=m+1:=⟨R.length - 1,zo⟩;rw[hm,List.range_succ_eq_map];simp);have V:=(J 0 u.1 u.2).2.1;rw[show zEu T ((zAF D L N x).getD 0 Sd).b.toNat=44 from(h _ (zLd u.1 u.2)).2]at V;have O:zAC (fun t=>(zAF D L N x).getD t Sd) (zEu T) 1=44:=V.symm;unfold zTx;rw[zDP (k:=1) (n:=(zAF D L N x).length) (by rw[O];decide) u.1,O];rfl
theorem zQe{D L N x:Nat}{sh:Nat->Option (Nat->UInt8)}(h:∀i∈zAV D L N x,(T i).x=bytesOf sh i):
  zDX (zC2 T) (fun t=>(zAF D L N x).getD t Sd) (zAF D L N x).length=(zAx N x).map fun(i:Nat)=>((i:Int),zEr D L N x sh i):=by
 rw[zPp];unfold zTD zEr;refine yY fun i _=>?_;refine Prod.ext rfl ?_
 funext t
 exact zBg (fun j u=>by show(T ((zAV D L N x).getD j 0)).x t=_;rw[h _ (zCB u)]) fun _ _=>rfl
theorem zG4(b q:Nat)(s:Sst)(i j:Nat)(h:s.tried.testBit j=true):(tryP b q s i).tried.testBit j=true:=by
 unfold tryP;split;{exact h};{dsimp only;rw[yAI,h];rfl}
theorem zE1:∀(l:List Nat) (t:Sst × Bool) (j:Nat),t.1.tried.testBit j=true->(loadsP b q t l).1.tried.testBit j=true
 | [],_,_,h=>h
 | i::l,t,j,h=>zE1 l _ j (zG4 b q t.1 i j h)
theorem zFp{D L G b q:Nat}:∀(f:Nat) (s:Sst),zB6 (D+L+G) s->(repP D L G b q f s).2=true->∀i,s.tried.testBit i=true->((repP D L G b q f s).1.sh i).isSome=true
 | 0,s,_,h=>by cases h
 | f+1,s,ok,h=>by
  intro i u;unfold repP at h ⊢;by_cases V:s.lost=0
  ·rw[yq V];have:=ok.is i u;rw[V,Nat.zero_testBit]at this;show(s.sh i).isSome=true
   cases e:s.sh i with
   | none=>rw[e]at this;cases this
   | some x=>rfl
  rw[yl V]at h ⊢;by_cases Z:zEi D L G s.lost=false
  ·rw[yq Z]at h;cases h
  rw[yl Z]at h ⊢;have hl:=fun i (u:i∈zAV D L (D+L+G) s.lost)=>zEF u;have ho:=zEV (b:=b) (q:=q) (zAV D L (D+L+G) s.lost) (s,true) ok hl;have ht:=zE1 (b:=b) (q:=q) (zAV D L (D+L+G) s.lost) (s,true) i u;by_cases hw:(loadsP b q (s,true) (zAV D L (D+L+G) s.lost)).2=true
  ·rw[yq hw];show((zHK D L (D+L+G) s.lost (loadsP b q (s,true) (zAV D L (D+L+G) s.lost)).1).sh i).isSome=true;unfold zHK;dsimp only;by_cases O:i∈zAx (D+L+G) s.lost
   ·rw[yq O];rfl
   ·rw[yl O];have hn:s.lost.testBit i=false:=by
     cases e:s.lost.testBit i with
     | false=>rfl
     | true=>
      have J:i<D+L+G:=by
       rcases Nat.lt_or_ge i (D+L+G)with h | h
       ·exact h
       ·rw[yBy (yI ok.lt (yM zo h))]at e
        cases e
      exact absurd (zY.2 ⟨J,e⟩) O
    have:=ok.is i u;rw[hn]at this;have hs:(s.sh i).isSome=true:=by
     cases e:s.sh i with
     | none=>rw[e]at this;cases this
     | some x=>rfl
    exact zDN _ _ i hs u
  ·rw[yl hw]at h ⊢;exact zFp f _ ho.1 h i ht
def tryN(b q:Nat)(s:Sst):Nat->Sst
 | 0=>s
 | k+1=>tryP b q (tryN b q s k) k
theorem zHt{N b q:Nat}{s:Sst}(h:zB6 N s):∀k,k≤N->zB6 N (tryN b q s k)
 | 0,_=>h
 | k+1,hk=>(zHt h k zo).try b q k zo
theorem zG5{N b q:Nat}{s:Sst}(h:zB6 N s):∀k,k≤N->∀i,i<k->(tryN b q s k).tried.testBit i=true
 | 0,_,i,hi=>zo
 | k+1,hk,i,hi=>by
  by_cases e:i=k
  ·subst e;exact zGG (zHt h i zo) b q i zo
  ·exact zG4 _ _ _ _ _ (zG5 h k zo i zo)
def zRs(D L G b q:Nat)(A:Arr):Sst × Bool:=repP D L G b q 17 (tryN b q (zEY A) D)
def getP(D L G b q:Nat)(A:Arr):Option (Nat->UInt8) × Arr:=(if(zRs D L G b q A).2 then some (fun t=>bytesOf (zRs D L G b q A).1.sh (t / 44) (t % 44))else none,(zRs D L G b q A).1.A)
theorem zNx{D L G b q:Nat}(h:(zRs D L G b q A).2=true){i:Nat}(u:i<D):((zRs D L G b q A).1.sh i).isSome=true:=
 zFp 17 _ (zHt (zB6.start _ _) D zo) h i (zG5 (zB6.start (D+L+G) _) D zo i u)
def zQ4(n:Nat)(x:Nat->UInt8):Nat->Nat->UInt8:=fun j t=>if j*44+t<n then x (j*44+t)else 0
def zGZ(q k:Nat)(y:Nat->UInt8):Frm.Frm:=⟨1,k,q,y⟩
def putTo(D L b q:Nat)(X:Nat->Nat->UInt8)(A:Arr):Nat->Arr
 | 0=>A
 | k+1=>(putTo D L b q X A k).qv k b (zGZ q k (zTH D L X k))
def putP(D L N b q n:Nat)(x:Nat->UInt8)(A:Arr):Arr:=putTo D L b q (zQ4 n x) A N
end Go.Proofs.YtonfdlhikinldaaGreatDoor
