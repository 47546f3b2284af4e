import Derived.Test.YtonfdlhikinldaaGreatDoorBu15
import Derived.Test.YtonfdlhikinldaaGreatDoorBu23
import Derived.Test.YtonfdlhikinldaaGreatDoorBu04
set_option maxRecDepth 100000
set_option linter.all false
set_option linter.unusedVariables false
set_option maxHeartbeats 16000000
namespace Go.Proofs.YtonfdlhikinldaaGreatDoor
open Go Go.RowKit Go.Proofs Lin Go.Proofs.Tryz
variable {X:Nat->Prop}{v:Value}
def zGJ(u:Nat)(E:List Nat)(b o:Nat):Prop:=(b=u∧o=2)∨(b∈E∧o=0)
def inS(u:Nat)(E:List Nat)(v:Value):Prop:=∃b o,v=.pointer (some ⟨b,o,none⟩)∧zGJ u E b o
theorem inS.mono{u:Nat}{E E':List Nat}(h:inS u E v)(hs:∀e∈E,e∈E'):inS u E' v:=by
 obtain⟨b,o,rfl,h⟩:=h;exact⟨b,o,rfl,h.imp id fun h=>⟨hs _ h.1,h.2⟩⟩
def Prg(w:zw)(D L G x:Nat)(u:Int)(J:Value):Prop:=
 u=(zBh D L (D+L+G) x:Nat)∧V4 w 0 249 J (zAF D L (D+L+G) x).length (fun i=>sc ((zAF D L (D+L+G) x).getD i Sd))∧zEi D L G x=true
theorem Prg.kept{w w':zw}{D L G x:Nat}{O:Int}{J:Value}(h:Prg w D L G x O J)(V:Upd X w w')(Z:∀b,X b->b<w.heap.size->∃t,Kd w b t∧t≠249):Prg w' D L G x O J:=
 ⟨h.1,h.2.1.kept V fun k hk hx=>by
  obtain⟨t,ht,u⟩:=Z k hx (h.2.1.lt k hk).2;exact h.2.1.qa ht u k hk rfl,h.2.2⟩
theorem Prg.qy{w w':zw}{D L G x:Nat}{O:Int}{J:Value}(h:Prg w D L G x O J)(V:Upd X w w')(Z:∀b,X b->¬Kd w b 249):Prg w' D L G x O J:=
 ⟨h.1,h.2.1.kept V fun k hk hx=>by
  rcases h.2.1.2 with⟨rfl,_⟩ | ⟨g,a0,u,rfl,_,hg,_⟩
  ·simp[Value.ownBlock]at hk
  ·obtain rfl:g=k:=(by simpa[Value.ownBlock]using hk);exact Z g hx ⟨u,hg⟩,h.2.2⟩
def zTt(x:Nat)(u:Int)(V O J:Value):Nat->Value:=fun i=>([U64 x,I u,V,O,J]:List Value).getD i (.bool false)
structure zCh (w:zw) (u mb:Nat) (J D L G:Nat) (E:List Nat) (Q:Nat->Nat):Prop where
 top:∃Z V,Row w u 0 7 (zQD J mb 0 0 (.slice none 0 0) Z V)∧inS u E Z∧inS u E V
 kd:Kd w u 173
 node:∀e∈E,∃O sv p1 p2,Row w e 0 5 (zTt (Q e) O sv p1 p2)∧inS u E p1∧inS u E p2∧Kd w e 171∧Prg w D L G (Q e) O sv∧Q e<2^16
section
variable {w w':zw} {kb mb most D L G:Nat} {E:List Nat} {Q:Nat->Nat}
def zIG(u:Nat)(E:List Nat)(b:Nat):Prop:=b=u∨b∈E
theorem zCh.qb(h:zCh w kb mb most D L G E Q){b:Nat}(u:zIG kb E b):∃t,Kd w b t∧(t=173∨t=171):=by
 rcases u with rfl | u;{exact⟨_,h.kd,.inl rfl⟩};{obtain⟨_,_,_,_,_,_,_,hk,_⟩:=h.node b u;exact⟨_,hk,.inr rfl⟩}
theorem zCh.kept(h:zCh w kb mb most D L G E Q)(J:Upd X w w')(O:∀b,X b->b<w.heap.size->(∃t,Kd w b t∧t≠249)∧¬zIG kb E b):zCh w' kb mb most D L G E Q:=by
 obtain⟨a1,a2,h1,h2,h3⟩:=h.top;refine⟨⟨a1,a2,h1.upd J fun _ u=>(O _ u h.kd.lt).2 (.inl rfl),h2,h3⟩,h.kd.upd J fun u=>(O _ u h.kd.lt).2 (.inl rfl),fun e Z=>?_⟩;obtain⟨rg,sv,p1,p2,q1,q2,q3,q4,q5,q6⟩:=h.node e Z;exact⟨rg,sv,p1,p2,q1.upd J fun _ u=>(O _ u q4.lt).2 (.inr Z),q2,q3,q4.upd J fun u=>(O _ u q4.lt).2 (.inr Z),q5.kept J fun b hb V=>(O b hb V).1,q6⟩
theorem zCh.qy(h:zCh w kb mb most D L G E Q)(J:Upd X w w')(O:∀b,X b->(∀t,¬Kd w b t)∧¬zIG kb E b):zCh w' kb mb most D L G E Q:=by
 obtain⟨a1,a2,h1,h2,h3⟩:=h.top;refine⟨⟨a1,a2,h1.upd J fun _ u=>(O _ u).2 (.inl rfl),h2,h3⟩,h.kd.upd J fun u=>(O _ u).2 (.inl rfl),fun e V=>?_⟩;obtain⟨rg,sv,p1,p2,q1,q2,q3,q4,q5,Z⟩:=h.node e V;exact⟨rg,sv,p1,p2,q1.upd J fun _ u=>(O _ u).2 (.inr V),q2,q3,q4.upd J fun u=>(O _ u).2 (.inr V),q5.qy J fun b hb=>(O b hb).1 _,Z⟩
theorem zCh.later(h:zCh w kb mb most D L G E Q)(u:Below w w w'):zCh w' kb mb most D L G E Q:=h.kept (Upd.of_below u) fun _ J _=>J.elim
theorem zCh.link(h:zCh w kb mb most D L G E Q){b o:Nat}(hn:zGJ kb E b o):∃V u,inS kb E V∧inS kb E u∧w.cell? (b,o+3)=some V∧w.cell? (b,o+4)=some u∧w.frozen? (b,o+3)=false∧w.frozen? (b,o+4)=false∧b<w.heap.size:=by
 rcases hn with⟨rfl,rfl⟩ | ⟨hb,rfl⟩;{obtain⟨a1,a2,J,h2,h3⟩:=h.top;exact⟨a1,a2,h2,h3,J.cell 5 zo,J.cell 6 zo,J.free 5 zo,J.free 6 zo,h.kd.lt⟩};{obtain⟨rg,sv,V,u,O,Z,q3,q4,_⟩:=h.node b hb;exact⟨V,u,Z,q3,O.cell 3 zo,O.cell 4 zo,O.free 3 zo,O.free 4 zo,q4.lt⟩}
theorem zCh.key(h:zCh w kb mb most D L G E Q){b o:Nat}(J:zGJ kb E b o):∃k:Nat,k<2^64∧w.cell? (b,o)=some (U64 k):=by
 rcases J with⟨rfl,rfl⟩ | ⟨u,rfl⟩;{obtain⟨a1,a2,O,h2,h3⟩:=h.top;exact⟨0,zd,O.cell 2 zo⟩};{obtain⟨rg,sv,p1,p2,V,q2,q3,q4,_,Z⟩:=h.node b u;exact⟨Q b,zo,V.cell 0 zo⟩}
theorem zCh.z7(h:zCh w kb mb most D L G E Q):w.cell? (kb,1)=some (.map (some mb)):=by
 obtain⟨O,J,u,_,_⟩:=h.top;exact u.cell 1 zo
theorem zCh.set(h:zCh w kb mb most D L G E Q){b o j:Nat}(hn:zGJ kb E b o)(hj:j=3∨j=4)(hv:inS kb E v):zCh (w.setCell (b,o+j) v) kb mb most D L G E Q:=by
 have hu:Upd (· =b) w (w.setCell (b,o+j) v):=(Upd.refl _ w).qe _ v;have a0:∀e∈E,e≠kb:=fun e he=>(by obtain⟨_,_,_,_,_,_,_,hk,_⟩:=h.node e he;exact hk.ne h.kd zd);have J:∀x V O,Prg w D L G x V O->Prg (w.setCell (b,o+j) v) D L G x V O:=fun x V O hp=>hp.kept hu fun c hc _=>(by subst hc;obtain⟨t,ht,u⟩:=h.qb (b:=c) (hn.imp (fun h=>h.1) fun h=>h.1);exact⟨t,ht,by rcases u with rfl | rfl<;>decide⟩);refine⟨?_,h.kd.set _ _,fun e he=>?_⟩;{obtain⟨a1,a2,u,h2,h3⟩:=h.top;rcases hn with⟨rfl,rfl⟩ | ⟨hb,rfl⟩;{rcases hj with rfl | rfl;{have hs:=u.set (i:=5) zo v;rw[yc]at hs;exact⟨v,a2,hs.congr fun i Z=>by match i,Z with | 0,_ | 1,_ | 2,_ | 3,_ | 4,_ | 5,_ | 6,_=>rfl,hv,h3⟩};{have hs:=u.set (i:=6) zo v;rw[yc]at hs;exact⟨a1,v,hs.congr fun i Z=>by match i,Z with | 0,_ | 1,_ | 2,_ | 3,_ | 4,_ | 5,_ | 6,_=>rfl,h2,hv⟩}};{exact⟨a1,a2,u.upd hu fun _ e=>a0 b hb e.symm,h2,h3⟩}};{obtain⟨V,O,p1,p2,q1,q2,q3,q4,q5,q6⟩:=h.node e he;by_cases e1:e=b;{subst e1;have ho:o=0:=(by rcases hn with⟨u,_⟩ | ⟨_,u⟩;{exact absurd u (a0 e he)};{exact u});subst ho;rcases hj with rfl | rfl;{have hs:=q1.set (i:=3) zo v;exact⟨V,O,v,p2,hs.congr fun i Z=>by match i,Z with | 0,_ | 1,_ | 2,_ | 3,_ | 4,_=>rfl,hv,q3,q4.set _ _,J _ _ _ q5,q6⟩};{have hs:=q1.set (i:=4) zo v;exact⟨V,O,p1,v,hs.congr fun i Z=>by match i,Z with | 0,_ | 1,_ | 2,_ | 3,_ | 4,_=>rfl,q2,hv,q4.set _ _,J _ _ _ q5,q6⟩}};{exact⟨V,O,p1,p2,q1.upd hu fun _=>e1,q2,q3,q4.set _ _,J _ _ _ q5,q6⟩}}
end
theorem zEl(S:World->Prop)(w:zw)(h:S w):∃(ι:Type) (_:Nonempty ι) (f:ι->World),(∀n,S (f n))∧Hid (∀V,S V->∃n,V=f n):=
 ⟨{V:World // S V},⟨⟨w,h⟩⟩,fun n=>n.1,fun n=>n.2,zz fun V u=>⟨⟨V,u⟩,rfl⟩⟩
structure zEQ (w V:zw) (J mb u D L G:Nat) (E:List Nat) (Q:Nat->Nat) (b o:Nat) (Z O:Value):Prop where
 upd:Upd (zIG J E) w V
 size:V.heap.size=w.heap.size
 ring:zCh V J mb u D L G E Q
 c1:V.cell? (b,o+3)=some Z
 c2:V.cell? (b,o+4)=some O
 kk:zO w V
section
variable {w V:zw} {kb mb most D L G:Nat} {E:List Nat} {Q:Nat->Nat} {b o:Nat} {p1 p2:Value}
theorem zEQ.drew(h:zEQ w V kb mb most D L G E Q b o p1 p2):zEQ w V.drew kb mb most D L G E Q b o p1 p2:=
 ⟨h.upd.trans (Upd.of_below (zA V)) (fun _ h _=>h.elim),h.size,h.ring.later (zA V),h.c1,h.c2,fun b t hk=>h.kk b t hk⟩
theorem zEQ.ji(h:zEQ w V kb mb most D L G E Q b o p1 p2){x y:Nat}(J:zGJ kb E x y)(hv:inS kb E p2)(hx:p1=.pointer (some ⟨x,y,none⟩))(u:zGJ kb E b o):zEQ w (V.setCell (x,y+4) p2) kb mb most D L G E Q b o p1 p2:=by
 refine⟨h.upd.trans ((Upd.refl (· =x) V).qe _ _) (fun c hc _=>hc▸J.imp (fun h=>h.1) fun h=>h.1),(yAE ..).trans h.size,h.ring.set J (.inr rfl) hv,?_,?_,h.kk.set _ _⟩;{rw[yBe _ _ _ _ (fun e=>by simp at e;obtain⟨rfl,e2⟩:=e;rcases J with⟨Z,rfl⟩ | ⟨Z,rfl⟩<;>rcases u with⟨O,rfl⟩ | ⟨O,rfl⟩<;>omega)];exact h.c1};{by_cases e:(⟨x,y+4,none⟩:Addr)=⟨b,o+4,none⟩;{rw[e];exact zAA h.c2 _};{rw[yBe _ _ _ _ e];exact h.c2}}
theorem zEQ.zg(h:zEQ w V kb mb most D L G E Q b o p1 p2){x y:Nat}(J:zGJ kb E x y)(hv:inS kb E p1)(u:zGJ kb E b o):zEQ w (V.setCell (x,y+3) p1) kb mb most D L G E Q b o p1 p2:=by
 refine⟨h.upd.trans ((Upd.refl (· =x) V).qe _ _) (fun c hc _=>hc▸J.imp (fun h=>h.1) fun h=>h.1),(yAE ..).trans h.size,h.ring.set J (.inl rfl) hv,?_,?_,h.kk.set _ _⟩;{by_cases e:(⟨x,y+3,none⟩:Addr)=⟨b,o+3,none⟩;{rw[e];exact zAA h.c1 _};{rw[yBe _ _ _ _ e];exact h.c1}};{rw[yBe _ _ _ _ (fun e=>by simp at e;obtain⟨rfl,e2⟩:=e;rcases J with⟨Z,rfl⟩ | ⟨Z,rfl⟩<;>rcases u with⟨O,rfl⟩ | ⟨O,rfl⟩<;>omega)];exact h.c2}
end
theorem zJA(w:zw)(kb mb u D L G:Nat)(E:List Nat)(Q:Nat->Nat)(H:zCh w kb mb u D L G E Q)(b o:Nat)(hn:zGJ kb E b o):
  Calls prog 129 #[.pointer (some ⟨b,o,none⟩)] w fun e w'=>e=.returned (.tuple #[])∧zCh w' kb mb u D L G E Q∧Upd (zIG kb E) w w'∧w'.heap.size=w.heap.size∧zO w w':=by
 obtain⟨p1,p2,a1,a0,h1,h2,_,_,_⟩:=H.link hn;have h0:zEQ w w kb mb u D L G E Q b o p1 p2:=⟨Upd.refl _ _,rfl,H,h1,h2,zO.refl _⟩;obtain⟨x,y,rfl,a3⟩:=id a1;obtain⟨x',y',rfl,O⟩:=id a0;have H0:=zz h0;have a8:=zz (fun V (h:zEQ w V kb mb u D L G E Q b o (.pointer (some ⟨x,y,none⟩)) (.pointer (some ⟨x',y',none⟩)))=>h.ji a3 a0 rfl hn);have a9:=zz (fun V (h:zEQ w V kb mb u D L G E Q b o (.pointer (some ⟨x,y,none⟩)) (.pointer (some ⟨x',y',none⟩)))=>h.zg O a1 hn);have a7:=zz a3;have a6:=zz O;clear H h1 h2 h0 a1 a0 a3 O hn;go_enter func129,ntmps129;obtain⟨κ,b1,wB,a2,a4⟩:=zEl (fun V=>zEQ w V kb mb u D L G E Q b o (.pointer (some ⟨x,y,none⟩)) (.pointer (some ⟨x',y',none⟩))) w H0.o;have y1:=fun n=>(a2 n).c1;have y2:=fun n=>(a2 n).c2;obtain⟨S,hS⟩:∃S:(Nat->Bool)->World->Prop,∀L' V,S L' V↔zEQ w V kb mb u D L G E Q b o (.pointer (some ⟨x,y,none⟩)) (.pointer (some ⟨x',y',none⟩)):=⟨_,fun _ _=>Iff.rfl⟩;have Z:=zz hS;clear a2;go_wp2_with fail;have a5:=zz (fun j L' V (h:S L' V)=>show S (zBw j L') V from(Z.o _ _).2 ((Z.o _ _).1 h));refine zAM S zP zk ((hS _ _).2 H0.o.drew) ?_;clear hS;refine zR (C:=fun V=>∃n,V=wB n) 18 zd rfl (fun L V h=>a4.o V ((Z.o _ _).1 h)) (fun j _ _ L V h=>a5.o j L V h) ?_;simp only[yz,yy,yE];(repeat(go_big_quiet_step (fail)));refine wpQuiet_nil ?_;simp only[yc];refine zAm rfl rfl undef ?_ ?_;{intro L' V hL _ J;have h:=(Z.o _ _).1 J;obtain⟨q1,q2,_,_,g3,g4,k3,k4,_⟩:=h.ring.link a7.o;have HV:=zz h;clear h J hL g3 k3;go_wp2_with fail;exact(Z.o _ _).2 (a8.o V HV.o)};simp only[Act.put,ya,ye,yd];refine zR (C:=fun V=>∃n,V=wB n) 2 zd rfl (fun L V h=>a4.o V ((Z.o _ _).1 h)) (fun j _ _ L V h=>a5.o j L V h) ?_;simp only[yu,yz,yy,yE];(repeat(go_big_quiet_step (fail)));refine wpQuiet_nil ?_;refine zAm rfl rfl undef ?_ ?_;{intro L' V hL _ J;have h:=(Z.o _ _).1 J;obtain⟨q1,q2,_,_,g3,g4,k3,k4,_⟩:=h.ring.link a6.o;have HV:=zz h;clear h J hL g4 k4;go_wp2_with fail;exact(Z.o _ _).2 (a9.o V HV.o)};simp only[Act.put,ya,ye,yd];refine zBZ zd ?_;intro L' V b0 J;have h:=(Z.o _ _).1 J;refine bodyPost_end (v:=.tuple #[]) (yBA results129 _ _ _) rfl ⟨rfl,h.ring,h.upd,h.size,h.kk⟩
structure zEL (w:zw) (D L G e x:Nat) (u:Int) (J V O:Value):Prop where
 row:Row w e 0 5 (zTt x u J V O)
 kd:Kd w e 171
 prg:Prg w D L G x u J
 lt:x<2^16
section
variable {w w':zw} {kb mb most D L G e x:Nat} {rg:Int} {sv p1 p2:Value} {E:List Nat} {Q:Nat->Nat}
theorem zEL.drew(h:zEL w D L G e x rg sv p1 p2):zEL w.drew D L G e x rg sv p1 p2:=
 ⟨h.row.later (zA w),h.kd.later (zA w),h.prg.kept (Upd.of_below (zA w)) (fun _ u _=>u.elim),h.lt⟩
theorem zEL.zg(h:zEL w D L G e x rg sv p1 p2)(v:Value):zEL (w.setCell (e,3) v) D L G e x rg sv v p2:=by
 have hs:=h.row.set (i:=3) zo v;exact⟨hs.congr fun i J=>by match i,J with | 0,_ | 1,_ | 2,_ | 3,_ | 4,_=>rfl,h.kd.set _ _,h.prg.kept ((Upd.refl (· =e) w).qe 3 v) (fun b u _=>⟨_,u▸h.kd,zd⟩),h.lt⟩
theorem zEL.ji(h:zEL w D L G e x rg sv p1 p2)(v:Value):zEL (w.setCell (e,4) v) D L G e x rg sv p1 v:=by
 have hs:=h.row.set (i:=4) zo v;exact⟨hs.congr fun i J=>by match i,J with | 0,_ | 1,_ | 2,_ | 3,_ | 4,_=>rfl,h.kd.set _ _,h.prg.kept ((Upd.refl (· =e) w).qe 4 v) (fun b u _=>⟨_,u▸h.kd,zd⟩),h.lt⟩
theorem zCh.zu(h:zCh w kb mb most D L G E Q)(J:Kd w e 171){j:Nat}(Z:j=3∨j=4)(hv:inS kb E v):zCh (w.setCell (e,j) v) kb mb most D L G E Q:=by
 by_cases V:e∈E;{have:=h.set (b:=e) (o:=0) (j:=j) (.inr ⟨V,rfl⟩) Z hv;rwa[yc]at this};{refine h.kept ((Upd.refl (· =e) w).qe j v) fun b O _=>⟨⟨_,O▸J,zd⟩,fun u=>?_⟩;subst O;rcases u with u | u;{exact absurd u (J.ne h.kd zd)};{exact V u}}
theorem zCh.add(h:zCh w kb mb most D L G E Q)(J:zEL w D L G e x rg sv p1 p2)(h1:inS kb E p1)(h2:inS kb E p2):zCh w kb mb most D L G (e::E) (fun b=>if b=e then x else Q b):=by
 have u:∀c∈E,c∈e::E:=fun c hc=>yU _ hc;obtain⟨a1,a2,q1,q2,q3⟩:=h.top;refine⟨⟨a1,a2,q1,q2.mono u,q3.mono u⟩,h.kd,fun c hc=>?_⟩;by_cases O:c=e;{subst O;rw[yq rfl];exact⟨rg,sv,p1,p2,J.row,h1.mono u,h2.mono u,J.kd,J.prg,J.lt⟩};{rw[yl O];obtain⟨a0,Z,V,a3,r1,r2,r3,r4⟩:=h.node c ((List.mem_cons.1 hc).resolve_left O);exact⟨a0,Z,V,a3,r1,r2.mono u,r3.mono u,r4⟩}
end
structure zSs (w V:zw) (J mb u D L G:Nat) (E:List Nat) (Q:Nat->Nat) (e x:Nat) (O:Int) (sv p1 p2 Z:Value):Prop where
 upd:Upd (zIG J (e::E)) w V
 size:V.heap.size=w.heap.size
 ring:zCh V J mb u D L G E Q
 ent:zEL V D L G e x O sv p1 p2
 nx:V.cell? (J,6)=some Z
 kk:zO w V
theorem zIv(w:zw)(J mb u D L G:Nat)(E:List Nat)(Q:Nat->Nat)(H:zCh w J mb u D L G E Q)(e x:Nat)(rg:Int)(sv q1 q2:Value)(he:zEL w D L G e x rg sv q1 q2):
  Calls prog 130 #[J,e] w fun en w'=>en=.returned (.tuple #[])∧zCh w' J mb u D L G (e::E) (fun b=>if b=e then x else Q b)∧Upd (zIG J (e::E)) w w'∧w'.heap.size=w.heap.size∧zO w w':=by
 obtain⟨a1,a2,ht,b7,a3⟩:=H.top;have c7:=he.kd.ne H.kd zd;have h0:zSs w w J mb u D L G E Q e x rg sv q1 q2 a2:=⟨Upd.refl _ _,rfl,H,he,ht.cell 6 zo,zO.refl _⟩;obtain⟨p0,a6⟩:∃p:Value,p=.pointer (some ⟨J,2,none⟩):=⟨_,rfl⟩;have a9:inS J E p0:=a6▸⟨J,2,rfl,.inl ⟨rfl,rfl⟩⟩;have Z:zIG J (e::E) e:=.inr (yAc ..);have b6:=zz (fun V q1 q2 (h:zSs w V J mb u D L G E Q e x rg sv q1 q2 a2)=>(⟨h.upd.trans ((Upd.refl (· =e) V).qe 3 p0) (fun c hc _=>hc▸Z),(yAE ..).trans h.size,h.ring.zu h.ent.kd (.inl rfl) a9,h.ent.zg _,by rw[yBe _ _ _ _ (fun e1=>by simp at e1)];exact h.nx,h.kk.set _ _⟩:zSs w (V.setCell (e,3) p0) J mb u D L G E Q e x rg sv p0 q2 a2));have b4:=zz (fun V q1 q2 (h:zSs w V J mb u D L G E Q e x rg sv q1 q2 a2)=>(⟨h.upd.trans ((Upd.refl (· =e) V).qe 4 a2) (fun c hc _=>hc▸Z),(yAE ..).trans h.size,h.ring.zu h.ent.kd (.inr rfl) a3,h.ent.ji _,by rw[yBe _ _ _ _ (fun e1=>by simp at e1)];exact h.nx,h.kk.set _ _⟩:zSs w (V.setCell (e,4) a2) J mb u D L G E Q e x rg sv q1 a2 a2));obtain⟨x',y',c5,a5⟩:=id a3;have H0:=zz h0;have c0:=zz a9;have c4:=zz a3;have c1:=zz a5;have b5:=zz a6;clear H ht b7 a3 a9 h0 Z he a5 a6;subst c5;go_enter func130,ntmps130;obtain⟨κ,c6,wB,b3,c3⟩:=zEl (fun V=>V.cell? (J,6)=some (.pointer (some ⟨x',y',none⟩))) w H0.o.nx;have y1:=b3;obtain⟨S,hS⟩:∃S:(Nat->Bool)->World->Prop,∀L' V,S L' V↔zSs w V J mb u D L G E Q e x rg sv (if L' 12 then p0 else q1) (if L' 15 then .pointer (some ⟨x',y',none⟩)else q2) (.pointer (some ⟨x',y',none⟩)):=⟨_,fun _ _=>Iff.rfl⟩;have HS:=zz hS;have b1:=zz (fun j (h1:j≠12) (h2:j≠15) L' V (h:S L' V)=>show S (zBw j L') V from(hS _ _).2 (by have h:=(hS _ _).1 h;rwa[zA4 h1,zA4 h2]));clear b3;go_upto_region 0 with fail;refine zAM S zP zk ((hS _ _).2 ⟨H0.o.upd.trans (Upd.of_below (zA w)) (fun _ h _=>h.elim),H0.o.size,H0.o.ring.later (zA w),H0.o.ent.drew,H0.o.nx,H0.o.kk⟩) ?_;clear hS;have b0:=zz (fun L' V (h:S L' V)=>c3.o V ((HS.o _ _).1 h).nx);refine zR (C:=fun V=>∃n,V=wB n) 12 zd rfl b0.o (fun j h1 h2=>b1.o j zo zo) ?_;simp only[yz,yy,yE];(repeat(go_big_quiet_step (fail)));refine wpQuiet_nil ?_;simp only[yc];refine zAm rfl rfl undef ?_ ?_;{intro L' V hL _ O;have h:=(HS.o _ _).1 O;rw[hL]at h;have k3:V.cell? (e,3)=some q1:=h.ent.row.cell 3 zo;have g3:V.frozen? (e,3)=false:=h.ent.row.free 3 zo;have HV:=zz h;clear h O hL;go_wp2_with fail;refine(HS.o (zBw 12 L') _).2 ?_;rw[zCm,zA4 zo,<-b5.o];exact b6.o V _ _ HV.o};simp only[Act.put,ya,ye,yd];refine zR (C:=fun V=>∃n,V=wB n) 2 zd rfl b0.o (fun j h1 h2=>b1.o j zo zo) ?_;simp only[yu,yz,yy,yE];(repeat(go_big_quiet_step (fail)));refine wpQuiet_nil ?_;refine zAm rfl rfl undef ?_ ?_;{intro L' V hL _ O;have h:=(HS.o _ _).1 O;rw[hL]at h;have k3:V.cell? (e,4)=some q2:=h.ent.row.cell 4 zo;have g3:V.frozen? (e,4)=false:=h.ent.row.free 4 zo;have HV:=zz h;clear h O hL;go_wp2_with fail;refine(HS.o (zBw 15 L') _).2 ?_;rw[zCm,zA4 zo];exact b4.o V _ _ HV.o}
 simp only[Act.put,ya,ye,yd];refine zBZ zd ?_;intro L' V a0 O;have h:=(HS.o _ _).1 O;rw[a0 12 zd,a0 15 zd]at h;have hr:=h.ring.add h.ent c0.o c4.o;have hm:inS J (e::E) (.pointer (zp e)):=⟨e,0,rfl,.inr ⟨yAc ..,rfl⟩⟩;have a4:zGJ J (e::E) x' y':=c1.o.imp id fun h=>⟨yU _ h.1,h.2⟩;have a8:zGJ J (e::E) J 2:=.inl ⟨rfl,rfl⟩;obtain⟨_,_,_,_,k3,_,f3,_,_⟩:=hr.link a4;have a7:=hr.set a4 (.inl rfl) hm;obtain⟨_,_,_,_,_,k6,_,f6,_⟩:=a7.link a8;have b2:=a7.set a8 (.inr rfl) hm;have nx:=h.nx;have hu:Upd (zIG J (e::E)) w ((V.setCell (x',y'+3) (.pointer (zp e))).setCell (J,2+4) (.pointer (zp e))):=
  (h.upd.trans ((Upd.refl (· =x') V).qe _ _) (fun c hc _=>hc▸a4.imp (fun h=>h.1) fun h=>h.1)).trans ((Upd.refl (· =J) _).qe _ _) (fun c hc _=>hc▸.inl rfl)
 have hz:((V.setCell (x',y'+3) (.pointer (zp e))).setCell (J,2+4) (.pointer (zp e))).heap.size=w.heap.size:=(by rw[yAE,yAE];exact h.size);have hk:=(h.kk.set ⟨x',y'+3,none⟩ (.pointer (zp e))).set ⟨J,2+4,none⟩ (.pointer (zp e));have b9:=zz b2;have HU:=zz hu;have HZ:=zz hz;have HK:=zz hk;clear hr a7 b2 hm a4 a8 h O a0 hu hz hk;go_wp2_with fail;refine bodyPost_end (v:=.tuple #[]) (yBA results130 _ _ _) rfl ⟨rfl,b9.o,HU.o,HZ.o,HK.o⟩
end Go.Proofs.YtonfdlhikinldaaGreatDoor
