import Derived.Test.YtonfdlhikinldaaGreatDoorBu03
import Derived.Test.YtonfdlhikinldaaGreatDoorBu02
import Derived.Test.YtonfdlhikinldaaGreatDoorBu01
import Derived.Deep.RegionWith
set_option maxRecDepth 100000
set_option linter.all false
set_option linter.unusedVariables false
set_option maxHeartbeats 16000000
namespace Go.Proofs.YtonfdlhikinldaaGreatDoor
open Go Go.RowKit Go.Proofs Lin Go.Proofs.Tryz
variable {x y:Nat->UInt8}{w wr:zw}{g n k:Nat}
theorem zJJ(n:Int)(u:0≤n)(J:n≤1000000)(w:zw):
  (Instr.makeSlice 141 (.int .i64 n) (.int .i64 n)).run prog w=.ok (.slice w n.toNat n.toNat) (w.alloc (.cells (madeCells #[.slice none 0 0] n.toNat) 31)):=by
 have:=run_make_row' (P:=prog) 141 31 (.slice none 0 0) 24 underlying141 zHA rfl .i64 .i64 n.toNat zo zo w;rwa[Int.toNat_of_nonneg u]at this
structure Mx (w:zw) (g n W:Nat) (β:Nat->Nat) (M:Nat->Nat->UInt8):Prop where
 outer:Row w g 0 n (fun i=>.slice (zp (β i)) W W)
 rows:∀i,i<n->Row w (β i) 0 W (bs (M i))
 kd:∀i,i<n->Kd w (β i) 5
 inj:∀i j,i<n->j<n->β i=β j->i=j
 gk:Kd w g 31
theorem Mx.ne{w:zw}{g n W:Nat}{β:Nat->Nat}{M:Nat->Nat->UInt8}(h:Mx w g n W β M){i:Nat}(u:i<n):β i≠g:=(h.kd i u).ne h.gk zd
def zLV(s:Sl):Nat->UInt8:=fun j=>if j<s.n then s.x j else 0
structure zA5 (w wr:zw) (g n k:Nat) (x y:Nat->UInt8):Prop where
 upd:Upd (· =g) w wr
 kd:zO w wr
 size:wr.heap.size=w.heap.size
 row:Row wr g 0 n (bs (fun j=>if j<k then y j else x j))
theorem zA5.start{w:zw}{g n:Nat}(h:Row w g 0 n (bs x)):zA5 w w g n 0 x y:=
 ⟨Upd.refl _ _,zO.refl _,rfl,h.congr fun j _=>zs⟩
theorem zA5.drewN(h:zA5 w wr g n k x y)(q:Nat):zA5 w (wr.drewN q) g n k x y:=
 ⟨h.upd.drewN q,h.kd.drewN q,h.size,h.row.drewN q⟩
theorem zA5.next(h:zA5 w wr g n k x y)(hk:k<n){v:Int}(hv:v=((y k).toNat:Int)):
  zA5 w (wr.setCell (g,k) (.int .u8 v)) g n (k+1) x y:=by
 refine⟨h.upd.setCell (fun _=>rfl) _,h.kd.set _ _,by rw[Deep.nblk_setCell];exact h.size,(Row.zj h.row hk (y k) hv).congr fun j _=>?_⟩;by_cases e:j=k;{subst e;simp[bs]};{by_cases u:j<k;{simp[bs,e,u,show j<k+1 by omega]};{simp[bs,e,u,show ¬j<k+1 by omega]}}
theorem zA5.skip(h:zA5 w wr g n k x y)(e:k<n->y k=x k):zA5 w wr g n (k+1) x y:=by
 refine⟨h.upd,h.kd,h.size,h.row.congr fun j J=>?_⟩;by_cases O:j=k;{subst O;simp[bs,e J]};{by_cases u:j<k;{simp[bs,u,show j<k+1 by omega]};{simp[bs,u,show ¬j<k+1 by omega]}}
theorem zA5.cellAt(h:zA5 w wr g n k x y)(hk:k<n):wr.cell? (g,k)=some (B (x k)):=by
 have:=h.row.cell k hk;simpa[bs]using this
theorem zA5.qu(h:zA5 w wr g n k x y)(hk:k<n):wr.frozen? (g,k)=false:=by
 have:=h.row.free k hk;simpa using this
structure zQR (w w':zw) (g n:Nat) (y:Nat->UInt8):Prop where
 upd:Upd (· =g) w w'
 kd:zO w w'
 size:w'.heap.size=w.heap.size
 row:Row w' g 0 n (bs y)
theorem zA5.done{g n:Nat}(h:zA5 w wr g n n x y):zQR w wr g n y:=
 ⟨h.upd,h.kd,h.size,h.row.congr fun j u=>by simp[bs,u]⟩
theorem zHG(J u:Value)(w:zw):Calls prog 135 #[J,u,B 0] w fun e w'=>e=.returned (.tuple #[])∧w=w':=by
 go_enter func135,ntmps135;go_wp2;go_end0;exact⟨rfl,rfl⟩
theorem zJK(a:Option Addr)(g n c b o m c':Nat)(x y:Nat->UInt8)(w:zw)(V:Row w g 0 n (bs x))(ha:0<m->a=some ⟨b,o,none⟩)(Z:Rd w b o m (bs y))(hb:0<m->b≠g)(hm:m≤n)(hn:n≤1000000):
  Calls prog 135 #[.slice g n c,.slice a m c',B 1] w fun e w'=>e=.returned (.tuple #[])∧zQR w w' g n (fun j=>if j<m then x j^^^Gf.mul 1 (y j)else x j):=by
 have HX:=zz V;have HY:=zz Z;clear V Z;go_enter func135,ntmps135;go_wp2_with fail;go_loopw [63] (fun i wr=>∃k:Nat,k≤m∧i=I k∧zA5 w wr g n k x (fun j=>if j<m then x j^^^Gf.mul 1 (y j)else x j)) (fun i _=>m - (intOf i).toNat);(case atStart=>exact⟨0,zo,rfl,zA5.start HX.o⟩);(case round=>obtain⟨k,hk,rfl,O⟩:=hrel;have u:=zz O;clear O;by_cases J:k<m;{obtain rfl:=ha zo;have c1:=u.o.cellAt (show k<n by omega);have f1:=u.o.qu (show k<n by omega);have c2:wr.cell? (b,o+k)=some (B (y k)):=(HY.o.upd u.o.upd hb) k J;go_wp2;go_roundw;(case rel=>exact⟨k+1,zo,by go_num,u.o.next zo (by rw[yq J,Gf.one_mul,zTP])⟩);(case measure=>simp[intOf];omega)};{go_wp2;go_end0;obtain rfl:k=m:=zo;exact⟨rfl,u.o.upd,u.o.kd,u.o.size,u.o.row.congr fun j _=>by by_cases e:j<k<;>simp[bs,e]⟩})
theorem zJL(x y:UInt8)(w:zw):Calls prog 99 #[B x,B y] w fun e w'=>e=.returned (B (Gf.mul x y))∧w'=w:=
 (zKC x y w).mono fun _ _ ⟨h1,h2⟩=>⟨h1,h2.symm⟩
theorem zCo{k:UInt8}{n:Nat}(h:k≠UInt8.ofNat n)(u:n<256):((k.toNat:Int)==(n:Int))=false:=by
 rw[yAU];intro e;apply h;apply yAB;rw[yAl,yAz zo];omega
theorem zF8(a:Option Addr)(g n c b o m c':Nat)(x y:Nat->UInt8)(s:UInt8)(w:zw)(Z:Row w g 0 n (bs x))(ha:0<m->a=some ⟨b,o,none⟩)(hy:Rd w b o m (bs y))(hb:0<m->b≠g)(hm:m≤n)(hn:n≤1000000)
  (h0:s≠0)(h1:s≠1)(hs:m<100):
  Calls prog 135 #[.slice g n c,.slice a m c',B s] w fun e w'=>e=.returned (.tuple #[])∧zQR w w' g n (fun j=>if j<m then x j^^^Gf.mul s (y j)else x j):=by
 have HX:=zz Z;have HY:=zz hy;clear Z hy;have e0:((s.toNat:Int)==0)=false:=zCo (n:=0) h0 zo;have e1:((s.toNat:Int)==1)=false:=zCo (n:=1) h1 zo;have V:decide ((m:Int)<100)=true:=(by simp;omega);go_enter func135,ntmps135;go_wp2_with fail;go_loopw [19] (fun i wr=>∃k:Nat,k≤m∧i=I k∧zA5 w wr g n k x (fun j=>if j<m then x j^^^Gf.mul s (y j)else x j)) (fun i _=>m - (intOf i).toNat);(case atStart=>exact⟨0,zo,rfl,zA5.start HX.o⟩);(case round=>obtain⟨k,hk,rfl,V⟩:=hrel;have u:=zz V;clear V;by_cases J:k<m;{obtain rfl:=ha zo;have c1:=u.o.cellAt (show k<n by omega);have f1:=u.o.qu (show k<n by omega);have c2:wr.cell? (b,o+k)=some (B (y k)):=(HY.o.upd u.o.upd hb) k J;by_cases O:y k=0;{have ez:((y k).toNat:Int)=0:=(by rw[O];rfl);have HZ:=zz O;clear O;go_wp2_with fail;go_roundw;(case rel=>exact⟨k+1,zo,by go_num,u.o.skip fun _=>by simp only[yq J];rw[HZ.o,Gf.mul_zero];simp⟩);(case measure=>simp[intOf];omega)};{have ez:((y k).toNat:Int)≠0:=fun e=>O (yAB (by simpa using e));clear O;have a0:k<n:=zo;go_wp2_with fail;go_still_tail 9,zA7;still_call (zJL _ _ _);(repeat still_step);refine wpStill_nil ?_;change wpList _ _ _ _ _ (wr.drewN 1);go_wp2;go_roundw;(case rel=>exact⟨k+1,zo,by go_num,(u.o.drewN 1).next zo (by simp only[yq J];exact zTP _ _)⟩);(case measure=>simp[intOf];omega)}};{go_wp2;go_returns;obtain rfl:k=m:=zo;exact⟨rfl,u.o.upd,u.o.kd,u.o.size,u.o.row.congr fun j _=>by by_cases e:j<k<;>simp[bs,e]⟩})
theorem zKT(a:Option Addr)(g n c b o m J:Nat)(x y:Nat->UInt8)(s:UInt8)(w:zw)(u:Row w g 0 n (bs x))(O:0<m->a=some ⟨b,o,none⟩)(hy:Rd w b o m (bs y))(Z:0<m->b≠g)(V:m≤n)(hn:n≤1000000)
  (hs:m<100):
  Calls prog 135 #[.slice g n c,.slice a m J,B s] w fun e w'=>e=.returned (.tuple #[])∧zQR w w' g n (fun j=>if j<m then x j^^^Gf.mul s (y j)else x j):=by
 by_cases h0:s=0;{subst h0;refine(zHG _ _ w).mono ?_;rintro e w' ⟨rfl,rfl⟩;exact⟨rfl,Upd.refl _ _,zO.refl _,rfl,u.congr fun j _=>by by_cases e:j<m<;>simp[bs,e,Gf.zero_mul]⟩};{by_cases h1:s=1;{subst h1;exact zJK a g n c b o m J x y w u O hy Z V hn};{exact zF8 a g n c b o m J x y s w u O hy Z V hn h0 h1 hs}}
end Go.Proofs.YtonfdlhikinldaaGreatDoor
namespace Go.Proofs.YtonfdlhikinldaaGreatDoor
open Go Go.RowKit Go.Proofs Lin Go.Proofs.Tryz
abbrev PV(D L G:Int):Value:=.agg #[I D,I L,I G]
structure zA6 (D L G:Nat):Prop where
 d1:1≤D
 d2:D≤12
 l1:1≤L
 l2:L≤4
 g2:G≤4
 div:D % L=0
 sum:D+L+G≤16
def zN(D L:Nat):Mat:=fun i j=>
 if i<D then(if i=j then 1 else 0)else if i<D+L then(if D+j / (D / L)=i then 1 else 0)else Gf.inv (UInt8.ofNat ((i - L)^^^j))
structure Gm (w wr:zw) (v:Value) (k W:Nat) (M:Mat) (β:Nat->Nat):Prop where
 below:Below w w wr
 vc:Vc wr w 31 v k (fun j=>.slice (zp (β j)) W W)
 row:∀j,j<k->Row wr (β j) 0 W (bs (M j))
 kd:∀j,j<k->Kd wr (β j) 5
 own:∀j,j<k->w.heap.size≤β j
 up:∀i j,i<j->j<k->β i<β j
namespace Gm
variable {w wr w1 w3:zw} {v v3:Value} {k W:Nat} {M N:Mat} {β:Nat->Nat}
theorem start(h:Below w w wr):Gm w wr (.slice none 0 0) 0 W M β:=
 ⟨h,Vc.nil _ _ _ _,fun j u=>absurd u zo,fun j u=>absurd u zo,fun j u=>absurd u zo,fun i j _ u=>absurd u zo⟩
theorem kept{G:Nat->Prop}(h:Gm w wr v k W M β)(O:Upd G wr w1)(hb:∀b,G b->w.heap.size≤b)(hg:∀b,G b->b<wr.heap.size->∃t,Kd wr b t∧t≠5∧t≠31):Gm w w1 v k W M β:=by
 have J:∀j,j<k->¬G (β j):=fun j u hG=>(by obtain⟨t,V,h1,_⟩:=hg _ hG (h.kd j u).lt;exact(h.kd j u).ne V (fun e=>h1 e.symm) rfl);refine⟨Below.upd h.below O hb h.below.size,h.vc.kept O fun t V hG=>?_,fun j u=>(h.row j u).upd O fun _=>J j u,fun j u=>(h.kd j u).upd O (J j u),h.own,h.up⟩;obtain⟨t',Z,_,h2⟩:=hg _ hG (h.vc.lt t V).2;exact h.vc.qa Z h2 t V rfl
theorem later(h:Gm w wr v k W M β)(u:Below wr wr w1):Gm w w1 v k W M β:=h.kept (Upd.of_below u) (fun _ e=>e.elim) (fun _ e=>e.elim)
theorem next(h:Gm w wr v k W M β){Z:Obj}(u:Upd (· =wr.heap.size) (wr.alloc Z) w1)(hr:Row w1 wr 0 W (bs (M k)))(hk:Kd w1 wr 5)
  (hv:Vc w3 w 31 v3 (k+1) (fun i=>if i<k then .slice (zp (β i)) W W else .slice wr W W))(V:Upd (fun b=>some b=v.ownBlock) w1 w3):
  Gm w w3 v3 (k+1) W M (fun j=>if j<k then β j else wr.heap.size):=by
 have hB:=h.below.size;have O:=fun j e=>(h.kd j e).lt;have a0:=(h.vc.alloc Z).kept u fun t ht e=>(by have:=(h.vc.lt t ht).2;omega);have J:∀b,Kd w1 b 5->¬some b=v.ownBlock:=fun b hb e=>a0.qa hb zd b e.symm rfl;refine⟨?_,hv.congr fun i hi=>?_,fun j hj=>?_,fun j hj=>?_,fun j hj=>?_,fun i j a1 hj=>?_⟩;{exact Below.upd (Below.upd (h.below.alloc hB _) u (fun b e=>zo) (by rw[Deep.nblk_alloc];omega)) V (fun t ht=>(h.vc.lt t ht.symm).1) (yC (by rw[Deep.nblk_alloc];omega) u.size)};{by_cases e:i<k;{simp[e]};{simp[e]}};{by_cases e:j<k;{simp only[yq e];have h1:=((h.row j e).alloc Z).upd u fun _ e'=>(by have:=O j e;omega);have h2:=((h.kd j e).alloc Z).upd u fun e'=>(by have:=O j e;omega);exact h1.upd V fun _=>J _ h2};{obtain rfl:j=k:=zo;simp only[yl e];exact hr.upd V fun _=>J _ hk}};{by_cases e:j<k;{simp only[yq e];have h2:=((h.kd j e).alloc Z).upd u fun e'=>(by have:=O j e;omega);exact h2.upd V (J _ h2)};{simp only[yl e];exact hk.upd V (J _ hk)}};{by_cases e:j<k;{simp only[yq e];exact h.own j e};{simp only[yl e];exact hB}};{by_cases e:j<k;{simp only[yq e,yq (show i<k by omega)];exact h.up i j a1 e};{simp only[yl e,yq (show i<k by omega)];exact O i zo}}
def sl(W:Nat)(M:Mat)(β:Nat->Nat)(i:Nat):Sl:=⟨zp (β i),β i,0,W,W,M i⟩
theorem ok(h:Gm w wr v k W M β)(J:W≤100000){i:Nat}(u:i<k):(sl W M β i).ok wr:=
 ⟨fun _=>rfl,(h.row i u).rd,yb _,by show W≤_;omega⟩
end Gm
theorem zUH(a b:Nat):((a:Int).tmod (b:Int))=((a % b:Nat):Int):=by
 rw[Int.tmod_eq_emod_of_nonneg zo];rfl
theorem zK3(a b:Nat):((a:Int).tdiv (b:Int))=((a / b:Nat):Int):=by
 rw[Int.tdiv_eq_ediv_of_nonneg zo];rfl
theorem zAJ(D L G:Int)(h:0≤D∧D≤1000∧0≤L∧L≤1000∧0≤G∧G≤1000)(w:zw):
  Calls prog 8 #[PV D L G] w fun e w'=>e=.returned (I (D+L+G))∧Below w w w':=by
 obtain⟨J,u,h3,O,Z,V⟩:=h;go_enter func8,ntmps8;go_wp2_with fail;go_ret;exact⟨rfl,(yh _ _).alloc (yb _) _⟩
def pcI(D L G:Int):Nat->Value:=fun i=>if i=0 then I D else if i=1 then I L else I G
theorem zNR(w:zw)(D L G:Int)(t:TypeId):Rd (w.alloc (.cells #[I D,I L,I G] t)) w 0 3 (pcI D L G):=by
 intro i u;simp only[World.cell?,yc,Deep.blk_alloc_new];rcases(show i=0∨i=1∨i=2 by omega)with rfl | rfl | rfl<;>simp[pcI]
end Go.Proofs.YtonfdlhikinldaaGreatDoor
namespace Go.Proofs.YtonfdlhikinldaaGreatDoor
open Go Go.RowKit Go.Proofs Lin Go.Proofs.Tryz
theorem zJM{D L k j:Nat}:Gf.inv (UInt8.ofNat ((D+k)^^^j))=zN D L (D+L+k) j:=by
 unfold zN;rw[yl zo,yl zo,show D+L+k - L=D+k by omega]
section
variable {w wr w1:zw} {v:Value} {k W:Nat} {M:Mat} {β:Nat->Nat}
theorem Gm.jy(h:Gm w wr v k W M β){J:Obj}(u:Upd (· =wr.heap.size) (wr.alloc J) w1):Vc w1 w 31 v k (fun j=>.slice (zp (β j)) W W):=
 (h.vc.alloc J).kept u fun t O e=>by have:=(h.vc.lt t O).2;omega
theorem Gm.zi(h:Gm w wr v k W M β){O:Obj}(u:Upd (· =wr.heap.size) (wr.alloc O) w1):w.heap.size≤w1.heap.size:=by
 have V:=h.below.size;have J:=u.size;rw[Deep.nblk_alloc]at J;omega
theorem Gm.mono{u:zw}(h:Gm w wr v k W M β)(V:Below u u w):Gm u wr v k W M β:=by
 have hs:=V.size;refine⟨V.trans (h.below.mono hs),⟨h.vc.1,?_⟩,h.row,h.kd,fun j hj=>yC hs (h.own j hj),h.up⟩;rcases h.vc.2 with h0 | ⟨g,J,O,e1,Z,rest⟩;{exact .inl h0};{exact .inr ⟨g,J,O,e1,yC hs Z,rest⟩}
theorem zA5.z6{g n m:Nat}{x y:Nat->UInt8}(h:zA5 w wr g n m x y)(e:∀j,m≤j->j<n->y j=x j):Row wr g 0 n (bs y):=
 h.row.congr fun j J=>by
  by_cases u:j<m
  ·simp[bs,u]
  ·simp[bs,u,e j zo J]
end
def zDl(D L G:Nat):Nat->Value:=fun i=>if i=0 then I D else if i=1 then I L else I G
theorem zMb(w:zw)(D L G:Nat)(t:TypeId):Rd (w.alloc (.cells #[I D,I L,I G] t)) w 0 3 (zDl D L G):=by
 intro i u;simp only[World.cell?,yc,Deep.blk_alloc_new];rcases(show i=0∨i=1∨i=2 by omega)with rfl | rfl | rfl<;>simp[zDl]
end Go.Proofs.YtonfdlhikinldaaGreatDoor
namespace Go.Proofs.YtonfdlhikinldaaGreatDoor
open Go Go.RowKit Go.Proofs Lin Go.Proofs.Tryz
structure zFC (J wr:zw) (u k D L G:Nat) (v:Value) (β:Nat->Nat):Prop where
 gm:Gm J wr v k D (zN D L) β
 own:J.heap.size≤u
 kd:Kd wr u 143
 par:Row wr u 0 3 (zDl D L G)
 at3:Row wr u 3 1 (fun _=>v)
namespace zFC
variable {w1 wr w2 w3:zw} {cb k D L G:Nat} {v v3:Value} {β:Nat->Nat}
theorem later(h:zFC w1 wr cb k D L G v β)(u:Below wr wr w2):zFC w1 w2 cb k D L G v β:=
 ⟨h.gm.later u,h.own,h.kd.later u,h.par.later u,h.at3.later u⟩
theorem start(w:zw)(D L G:Nat):zFC w (w.alloc (.cells #[I D,I L,I G,.slice none 0 0] 143)) w 0 D L G (.slice none 0 0) (fun _=>0):=by
 refine⟨Gm.start ((yh _ _).alloc (yb _) _),yb _,Kd.new _ _ _,⟨fun i u=>?_,fun i u=>?_⟩,⟨fun i u=>?_,fun i u=>?_⟩⟩;{simp only[World.cell?,yc,Deep.blk_alloc_new];rcases(show i=0∨i=1∨i=2 by omega)with rfl | rfl | rfl<;>simp[zDl]};{simp only[World.frozen?,Deep.blk_alloc_new];simp};{obtain rfl:i=0:=zo;simp only[World.cell?,Deep.blk_alloc_new];simp};{simp only[World.frozen?,Deep.blk_alloc_new];simp}
theorem fill(h:zFC w1 wr cb k D L G v β){J:Obj}(u:Upd (· =wr.heap.size) (wr.alloc J) w2):Kd w2 cb 143∧Row w2 cb 0 3 (zDl D L G)∧Row w2 cb 3 1 (fun _=>v):=by
 have O:=h.kd.lt;exact⟨(h.kd.alloc J).upd u zo,(h.par.alloc J).upd u (fun _=>zo),(h.at3.alloc J).upd u (fun _=>zo)⟩
theorem app(h:zFC w1 wr cb k D L G v β){V:Obj}(J:Upd (· =wr.heap.size) (wr.alloc V) w2)(O:Upd (fun b=>some b=v.ownBlock) w2 w3):
  Kd w3 cb 143∧Row w3 cb 0 3 (zDl D L G)∧Row w3 cb 3 1 (fun _=>v):=by
 obtain⟨a,b,c⟩:=h.fill J;have u:¬some cb=v.ownBlock:=fun e=>(h.gm.jy J).qa a zd cb e.symm rfl;exact⟨a.upd O u,b.upd O (fun _=>u),c.upd O (fun _=>u)⟩
theorem next(h:zFC w1 wr cb k D L G v β){O:Obj}(u:Upd (· =wr.heap.size) (wr.alloc O) w2)(V:Row w2 wr 0 D (bs (zN D L k)))(hk:Kd w2 wr 5)
  (hv:Vc w3 w1 31 v3 (k+1) (fun i=>if i<k then .slice (zp (β i)) D D else .slice wr D D))(J:Upd (fun b=>some b=v.ownBlock) w2 w3):
  zFC w1 (w3.setCell (cb,3) v3) cb (k+1) D L G v3 (fun j=>if j<k then β j else wr.heap.size):=by
 obtain⟨a,b,c⟩:=h.app u J;refine⟨(h.gm.next u V hk hv J).kept (G:=(· =cb)) ((Upd.refl (fun b=>b=cb) w3).setCell (a:=⟨cb,3,none⟩) (fun _=>rfl) v3) (fun t e=>by subst e;exact h.own) (fun t e _=>by subst e;exact⟨_,a,zd,zd⟩),h.own,a.set _ _,b.aside (.inr zo) _,?_⟩;exact(c.set (i:=0) zo v3).congr fun i Z=>(by simp;omega)
end zFC
theorem zJN(Z D L G j s t:Nat)(hL:1≤L)(hD:D≤12)(a5:0<s)(hs:s=D / L)(ht:t=j / s)(hj:j<100)(w:zw)(hp:Row w Z 0 3 (zDl D L G)):
  Calls prog 67 #[Z,I j] w fun e w'=>e=.returned (I t)∧∃q,w'=w.drewN q:=by
 have c0:w.cell? Z=some (I D):=hp.cell 0 zo;have c1:w.cell? (Z,1)=some (I L):=hp.cell 1 zo;have a3:=hs▸yAP _ _;have a1:¬L=0:=zo;have a4:¬(L:Int)=0:=zo;have a0:¬s=0:=zo;have a2:¬(s:Int)=0:=zo;have hq:IntKind.i64.wrap ((D:Int).tdiv (L:Int))=(s:Int):=(by rw[zK3,<-hs];exact zEM _ zo zo);have O:IntKind.i64.wrap ((j:Int).tdiv (s:Int))=(t:Int):=(by have:=ht▸yAP _ _;rw[zK3,<-ht];exact zEM _ zo zo);have u:∀x:Int,wrap64 x=IntKind.i64.wrap x:=fun x=>(by rw[IntKind.wrap_i64];unfold wrap64;rfl);have J:wrap64 ((D:Int) / (L:Int))=(s:Int):=(by rw[u,<-Int.tdiv_eq_ediv_of_nonneg zo,hq]);have V:wrap64 ((j:Int) / (s:Int))=(t:Int):=(by rw[u,<-Int.tdiv_eq_ediv_of_nonneg zo,O]);have n3:¬wrap64 ((D:Int) / (L:Int))=0:=(by rw[J];omega);have E:Ending.returned (.int .i64 (wrap64 ((j:Int) / wrap64 ((D:Int) / (L:Int)))))=.returned (I t):=(by rw[J,V]);have HE:=zz E;clear u hq O J V E;clear hp hs ht;go_enter func67,ntmps67;go_wp2_with fail;go_quiet (fail);go_wp2_with fail;go_ret;exact⟨HE.o,_,rfl⟩
end Go.Proofs.YtonfdlhikinldaaGreatDoor
namespace Go.Proofs.YtonfdlhikinldaaGreatDoor
open Go Go.RowKit Go.Proofs Lin Go.Proofs.Tryz
variable {D L k j:Nat}
theorem zOY(h:k<D):zN D L k j=if k=j then 1 else 0:=by unfold zN;rw[yq h]
theorem zSF(h:¬k<D)(h':k<D+L):zN D L k j=if D+j / (D / L)=k then 1 else 0:=by unfold zN;rw[yl h,yq h']
theorem zSG(h:¬k<D)(h':¬k<D+L):zN D L k j=Gf.inv (UInt8.ofNat ((k - L)^^^j)):=by unfold zN;rw[yl h,yl h']
structure zAT (w wr:zw) (u D L G:Nat) (v:Value) (β:Nat->Nat):Prop where
 below:Below w w wr
 own:w.heap.size≤u
 kd:Kd wr u 143
 par:Row wr u 0 3 (zDl D L G)
 at3:Row wr u 3 1 (fun _=>v)
 gm:Gm w wr v (D+L+G) D (zN D L) β
theorem zAT.of{w J wr:zw}{O D L G:Nat}{v:Value}{β:Nat->Nat}(h:zFC J wr O (D+L+G) D L G v β)(u:Below w w J):zAT w wr O D L G v β:=
 ⟨u.trans (h.gm.below.mono u.size),yC u.size h.own,h.kd,h.par,h.at3,h.gm.mono u⟩
theorem zTm(D L G:Nat)(hR:zA6 D L G)(w:zw):
  Calls prog 42 #[PV D L G] w fun e w'=>∃cb v β,e=.returned (.tuple #[.pointer (zp cb),.nilIface])∧zAT w w' cb D L G v β:=by
 have h1:=hR.d1;have h2:=hR.d2;have h3:=hR.l1;have h4:=hR.l2;have h5:=hR.g2;have h6:=hR.div;have h7:=hR.sum;have d8:(D:Int) % (L:Int)=0:=(by have:((D % L:Nat):Int)=0:=(by rw[h6];rfl);simpa using this);have c6:=Nat.div_pos (Nat.le_of_dvd zo (Nat.dvd_of_mod_eq_zero h6)) zo;clear hR h6;have a0:=zA2 (D:Int) zo zo;simp only[yAy]at a0;have a8:=zz (zMb w D L G 26);go_enter func42,ntmps42;go_upto_region 3 with(go_at_call 8;refine(zAJ D L G zo _).mono ?_;rintro e w1 ⟨rfl,hb⟩;have HB:=zz hb;clear hb);have O:=zz (a8.o.later HB.o);have b6:=zz (((yh w w).alloc (yb _) (.cells #[I D,I L,I G] 26)).trans (HB.o.mono zs));clear HB a8;have c0:w1.cell? w=some (I D):=O.o 0 zo;have c1:w1.cell? (w,1)=some (I L):=O.o 1 zo;have c2:w1.cell? (w,2)=some (I G):=O.o 2 zo;have b4:=zz (zFC.start w1 D L G);have e0:=Rd.lt O.o zo;clear a0;have a0:=zA2 (D:Int) zo zo;simp only[yAy]at a0;go_wp2_with (go_at_call 8;refine(zAJ D L G zo _).mono ?_;rintro e w2 ⟨rfl,hb⟩;have V:=zz (b4.o.later hb);clear hb);clear b4 c0 c1 c2;go_loopg [55] (D+L+G) (fun g i w3=>∃(k:Nat) (v:Value) (β:Nat->Nat),g=D+L+G - k∧k≤D+L+G∧i=I k∧zFC w1 w3 w1 k D L G v β);(case atStart=>exact⟨0,_,_,rfl,zo,rfl,V.o⟩);(case round=>clear V;obtain⟨k,v,β,rfl,hk,rfl,hN⟩:=hrel;have V:=zz hN;clear hN;have a7:=zz (O.o.later V.o.gm.below);have c0:wr.cell? w=some (I D):=a7.o 0 zo;by_cases d6:k<D+L+G;{have c7:decide ((k:Int)<D+(L:Int)+G)=true:=yG zo;go_wp2_with fail;obtain⟨wo,rfl⟩:=zx wr;have d0:=Rd.lt a7.o zo;go_loopg [63] D (fun g i w3=>∃m:Nat,g=D - m∧m≤D∧i=I m∧zA5 (wo.alloc (.cells (madeCells #[.int .u8 0] D) 5)) w3 wo D m (fun _=>0) (zN D L k));(case atStart=>exact⟨0,rfl,zo,rfl,zA5.start ((Row.new wo (.int .u8 0) D 5).congr fun i _=>by simp[bs,B])⟩);(case round=>obtain⟨m,rfl,hm,rfl,hd⟩:=hrel;have J:=zz hd;clear hd;have HF:=zz (V.o.fill J.o.upd);by_cases u:m<D;{have a9:=zz ((a7.o.alloc (.cells (madeCells #[.int .u8 0] D) 5)).upd J.o.upd (fun _=>zo));have c9:wr.cell? w=some (I D):=a9.o 0 zo;have d4:wr.cell? (w,1)=some (I L):=a9.o 1 zo;have d1:wr.cell? (wo,m)=some (.int .u8 0):=J.o.cellAt u;have d2:=J.o.qu u;by_cases Z:k<D;{by_cases b2:k=m;{subst b2;have a4:((k:Int)==k)=true:=zs;have HV:=zy ((1:Int)=((zN D L k k).toNat:Int)) (by rw[zOY Z,yq rfl];rfl);go_wp2_with fail;go_roundg (D - (k+1));(case measure=>omega);(case rel=>exact⟨k+1,rfl,zo,by go_num,J.o.next u HV.o⟩)};{have a4:((k:Int)==m)=false:=(by simp;omega);have HV:=zy (zN D L k m=0) (by rw[zOY Z,yl b2]);go_wp2_with fail;go_roundg (D - (m+1));(case measure=>omega);(case rel=>exact⟨m+1,rfl,zo,by go_num,J.o.skip fun _=>HV.o⟩)}};{by_cases b0:k<D+L;{obtain⟨s,hs⟩:=zx (D / L);obtain⟨t,ht⟩:=zx (m / s);have HG:=zz (fun q=>zJN w1 D L G m s t h3 h2 zo hs ht zo (wr.drewN q) (HF.o.2.1.drewN q));have HV:=zz (show zN D L k m=if D+t=k then 1 else 0 by rw[zSF Z b0,<-hs,<-ht]);have d5:=ht▸yAP _ _;clear hs ht c6;have d9:∀q,(wr.drewN q).cell? (wo,m)=some (.int .u8 0):=fun _=>d1;have d7:∀q,(wr.drewN q).frozen? (wo,m)=false:=fun _=>d2;by_cases b3:D+t=k;{have a4:((D:Int)+t==(k:Int))=true:=(by simp;omega);have a5:=zy ((1:Int)=((zN D L k m).toNat:Int)) (by rw[HV.o,yq b3];rfl);go_wp2_with fail;go_quiet ((go_at_call 67;exact Calls.quiet_of (HG.o _)));go_wp2_with fail;go_roundg (D - (m+1));(case measure=>omega);(case rel=>exact⟨m+1,rfl,zo,by go_num,(J.o.drewN _).next u a5.o⟩)};{have a4:((D:Int)+t==(k:Int))=false:=(by simp;omega);have a5:=zy (zN D L k m=0) (by rw[HV.o,yl b3]);go_wp2_with fail;go_quiet ((go_at_call 67;exact Calls.quiet_of (HG.o _)));go_wp2_with fail;go_roundg (D - (m+1));(case measure=>omega);(case rel=>exact⟨m+1,rfl,zo,by go_num,(J.o.drewN _).skip fun _=>a5.o⟩)}};{have b1:=zKG (k - L) m zo zo;have hx:bits BinOp.xor IntKind.i64 ((k:Int) - L) (m:Int)=(((k - L)^^^m:Nat):Int):=(by rw[<-b1,Int.ofNat_sub zo]);have d3:(k - L)^^^m<2^5:=yBj zo zo;have HI:=zz (zSG (j:=m) Z b0);clear b1;generalize hy:(k - L)^^^m=y at *;clear hy;obtain⟨z,hz⟩:∃z:UInt8,z.toNat=y:=⟨UInt8.ofNat y,by rw[yAl,yAz zo]⟩;subst hz;have b9:=zy (Gf.inv z=zN D L k m) (by have:=HI.o;rw[UInt8.ofNat_toNat]at this;exact this.symm);go_wp2_with (go_at_call 68;refine(zNo z _).mono ?_;rintro e w4 ⟨rfl,rfl⟩);go_roundg (D - (m+1));(case measure=>omega);(case rel=>exact⟨m+1,rfl,zo,by go_num,J.o.next u (by rw[b9.o])⟩)}}};{obtain rfl:D=m:=zo;have HW:=zz (J.o.z6 (fun j h1 h2=>absurd h2 zo));have HK:=zz (J.o.kd _ _ (Kd.new wo (madeCells #[.int .u8 0] D) 5));have HU:=zz J.o.upd;have HV:=zz (V.o.gm.jy HU.o);have b7:=V.o.gm.zi HU.o;have c3:wr.cell? (w1,3)=some v:=(by have:=HF.o.2.2.cell 0 zo;simpa using this);go_wp2_with (refine zW rfl (.tmp 112) (.tmp 114) 141 rfl w1 31 (.slice none 0 0) 24 underlying141 zHA rfl v k _ rfl HV.o (.slice wo D D) _ rfl rfl zo zo b7 ?_;intro v3 w3 a6 a3;obtain⟨va,vb,vc,rfl,b5,_⟩:=a6.shape;obtain rfl:=b5 zo;have hA:=V.o.app HU.o a3;have a1:=hA.2.2.cell 0 zo;have a2:=hA.2.2.free 0 zo;rw[yAk]at a1 a2;clear hA;have c4:=zz a6;have c5:=zz a3;clear a6 a3);go_roundg (D+L+G - (k+1));(case measure=>omega);(case rel=>exact⟨k+1,_,_,rfl,zo,by go_num,V.o.next HU.o HW.o HK.o c4.o c5.o⟩)})};{obtain rfl:k=D+L+G:=zo;go_wp2_with fail;go_returns;exact⟨_,_,_,rfl,zAT.of V.o b6.o⟩})
abbrev U(n:Nat):Value:=.int .u64 (n:Int)
theorem zAi(n:Int)(u:0≤n)(J:n<2^64):IntKind.u64.wrap n=n:=by
 show n % 2^64=n;exact Int.emod_eq_of_lt u J
theorem zB8(a b:Nat)(J:a<2^64)(u:b<2^64):bits .and .u64 (a:Int) (b:Int)=((a &&& b:Nat):Int):=
 (bits_nat .u64 64 zd zAi a b J u).1
theorem zJi(x i:Nat)(u:x<2^64):(bits .and .u64 ((x:Int) / 2^i) 1==1)=x.testBit i:=by
 have e:(x:Int) / 2^i=((x / 2^i:Nat):Int):=zs;have J:x / 2^i≤x:=yAP _ _;rw[e,show(1:Int)=((1:Nat):Int)from rfl,zB8 _ _ zo zo,nat_mask1,Nat.testBit_eq_decide_div_mod_eq];by_cases h:x / 2^i % 2=1;{simp[h]};{have:x / 2^i % 2=0:=zo;simp[this]}
theorem zSc(x i:Nat)(u:x<2^64)(O:i<64)(w:zw):
  Calls prog 109 #[U x,I i] w fun e w'=>e=.returned (.bool (x.testBit i))∧w'=w:=by
 have J:=zz (zJi x i u);go_enter func109,ntmps109;go_wp2_with fail;go_ret;exact⟨by rw[<-J.o];rfl,rfl⟩
theorem zOx(g n c:Nat)(x:Nat->UInt8)(k:UInt8)(w:zw)(V:Row w g 0 n (bs x))(hn:n≤1000000):
  Calls prog 149 #[.slice g n c,B k] w fun e w'=>e=.returned (.tuple #[])∧zQR w w' g n (fun j=>Gf.mul k (x j)):=by
 have Z:=zz V;clear V;go_enter func149,ntmps149;go_wp2_with fail;go_loopw [8] (fun i wr=>∃m:Nat,m≤n∧i=I m∧zA5 w wr g n m x (fun j=>Gf.mul k (x j))) (fun i _=>n - (intOf i).toNat);(case atStart=>exact⟨0,zo,rfl,zA5.start Z.o⟩);(case round=>obtain⟨m,hm,rfl,O⟩:=hrel;have J:=zz O;clear O;by_cases u:m<n;{have c1:=J.o.cellAt u;have f1:=J.o.qu u;go_wp2_with (go_at_call 99;refine(zKC _ _ _).mono ?_;rintro e w1 ⟨rfl,rfl⟩);go_roundw;(case rel=>exact⟨m+1,zo,by go_num,J.o.next u rfl⟩);(case measure=>simp[intOf];omega)};{go_wp2;go_end0;obtain rfl:m=n:=zo;exact⟨rfl,J.o.done⟩})
end Go.Proofs.YtonfdlhikinldaaGreatDoor
namespace Go.Proofs.YtonfdlhikinldaaGreatDoor
open Go Go.RowKit Go.Proofs Lin Go.Proofs.Tryz
theorem Mx.congr{w:zw}{g n W:Nat}{β:Nat->Nat}{M N:Nat->Nat->UInt8}(h:Mx w g n W β M)(e:∀i,i<n->∀j,j<W->M i j=N i j):Mx w g n W β N:=
 ⟨h.outer,fun i u=>(h.rows i u).congr fun j J=>by simp[bs,e i u j J],h.kd,h.inj,h.gk⟩
theorem Mx.drewN{w:zw}{g n W:Nat}{β:Nat->Nat}{M:Nat->Nat->UInt8}(h:Mx w g n W β M)(q:Nat):Mx (w.drewN q) g n W β M:=
 ⟨h.outer.drewN q,fun i u=>(h.rows i u).drewN q,h.kd,h.inj,h.gk⟩
theorem Mx.upd{w w':zw}{G:Nat->Prop}{g n W:Nat}{β:Nat->Nat}{M:Nat->Nat->UInt8}(h:Mx w g n W β M)(J:Upd G w w')(O:¬G g)(V:∀i,i<n->¬G (β i)):Mx w' g n W β M:=
 ⟨h.outer.upd J fun _=>O,fun i u=>(h.rows i u).upd J fun _=>V i u,fun i u=>(h.kd i u).upd J (V i u),h.inj,h.gk.upd J O⟩
theorem Mx.rowDone{w w':zw}{g n W p:Nat}{β:Nat->Nat}{M:Nat->Nat->UInt8}{y:Nat->UInt8}(h:Mx w g n W β M)(O:p<n)(u:zQR w w' (β p) W y):
  Mx w' g n W β (fun r=>if r=p then y else M r):=by
 refine⟨h.outer.upd u.upd fun _ e=>h.ne O e.symm,fun i J=>?_,fun i J=>u.kd _ _ (h.kd i J),h.inj,u.kd _ _ h.gk⟩;by_cases e:i=p;{subst e;simp only[yBa];exact u.row};{simp only[yl e];exact(h.rows i J).upd u.upd fun _ V=>e (h.inj i p J O V)}
def swp(i p:Nat):Nat->Nat:=fun r=>if r=i then p else if r=p then i else r
def zOk(β:Nat->Nat)(i p:Nat):Nat->Nat:=fun r=>β (swp i p r)
theorem zJW{n i p r:Nat}(J:i<n)(u:p<n)(O:r<n):swp i p r<n:=by unfold swp;split<;>(try split)<;>omega
theorem zSP{i p j k:Nat}(e:swp i p j=swp i p k):j=k:=by
 unfold swp at e;split at e<;>split at e<;>(try split at e)<;>(try split at e)<;>omega
theorem zQZ(M:Mat)(i p:Nat):zFj M i p=fun r=>M (swp i p r):=by
 funext r;unfold zFj swp;split
 {rfl};{split<;>rfl}
theorem Mx.swapped{w:zw}{g n W i p:Nat}{β:Nat->Nat}{M:Nat->Nat->UInt8}(h:Mx w g n W β M)(V:i<n)(J:p<n):
  Mx ((w.setCell (g,i) (.slice (zp (β p)) W W)).setCell (g,p) (.slice (zp (β i)) W W)) g n W (zOk β i p) (zFj M i p):=by
 have h1:=(h.outer.set V (.slice (zp (β p)) W W)).set J (.slice (zp (β i)) W W);rw[yc,yc]at h1;rw[zQZ];refine⟨h1.congr fun j _=>?_,fun j u=>?_,fun j u=>?_,fun j k u hk e=>zSP (h.inj _ _ (zJW V J u) (zJW V J hk) e),(h.gk.set _ _).set _ _⟩;{unfold zOk swp;by_cases Z:j=p;{subst Z;by_cases O:j=i;{subst O;simp};{simp[O]}};{by_cases O:j=i;{subst O;simp[Z]};{simp[Z,O]}}};{have hk:=zJW V J u;exact((h.rows _ hk).other (a:=(g,i)) (yBo (h.ne hk)) _).other (a:=(g,p)) (yBo (h.ne hk)) _};{exact((h.kd _ (zJW V J u)).set _ _).set _ _}
def zMj(M:Mat)(p:Nat)(k:Nat->UInt8)(j:Nat):Mat:=elim M j p k
theorem zOl{M:Mat}{p r i x W:Nat}{k:Nat->UInt8}(u:r≠p)(O:x<W):
  (if i=r then(fun x=>if x<W then zMj M p k r r x^^^Gf.mul (k r) (zMj M p k r p x)else zMj M p k r r x)else zMj M p k r i) x=zMj M p k (r+1) i x:=by
 unfold zMj elim;by_cases e:i=r;{subst e;simp[O,u]};{simp only[yl e];by_cases J:i≠p∧i<r;{rw[yq J,yq ⟨J.1,zo⟩]};{rw[yl J,yl zo]}}
theorem zSQ(M:Mat)(p:Nat)(k:Nat->UInt8)(r:Nat):zMj M p k r r=M r:=by simp[zMj,elim]
structure zAn (w wr:zw) (g n W:Nat) (u β:Nat->Nat) (v:Value) (s:Mat × List Nat):Prop where
 mx:Mx wr g n W β s.1
 perm:∀i,i<n->∃j,j<n∧β i=u j
 upd:Upd (fun b=>b=g∨∃j,j<n∧b=u j) w wr
 piv:Vc wr w 3 v s.2.length (fun i=>I (s.2.getD i 0:Nat))
theorem zTr(R:Mat)(r p c:Nat):zFj R r p p c=R r c:=by
 unfold zFj;split;{rename_i e;rw[e]};{rw[yq rfl]}
namespace zAn
variable {w wr w':zw} {g n W:Nat} {β0 β:Nat->Nat} {v:Value} {R N:Mat} {piv:List Nat}
theorem congr(h:zAn w wr g n W β0 β v (R,piv))(e:∀i,i<n->∀j,j<W->R i j=N i j):zAn w wr g n W β0 β v (N,piv):=
 ⟨h.mx.congr e,h.perm,h.upd,h.piv⟩
theorem drewN(h:zAn w wr g n W β0 β v (R,piv))(q:Nat):zAn w (wr.drewN q) g n W β0 β v (R,piv):=
 ⟨h.mx.drewN q,h.perm,h.upd.drewN q,h.piv.drewN q⟩
theorem rowDone{p:Nat}{y:Nat->UInt8}(h:zAn w wr g n W β0 β v (R,piv))(J:p<n)(u:zQR wr w' (β p) W y):
  zAn w w' g n W β0 β v (fun r=>if r=p then y else R r,piv):=by
 refine⟨h.mx.rowDone J u,h.perm,h.upd.trans u.upd fun b e _=>?_,h.piv.kept u.upd fun k hk=>h.piv.qa (h.mx.kd p J) zd k hk⟩;obtain⟨j,V,O⟩:=h.perm p J;exact .inr ⟨j,V,by rw[e,O]⟩
theorem swapped{i p:Nat}(h:zAn w wr g n W β0 β v (R,piv))(J:i<n)(u:p<n):
  zAn w ((wr.setCell (g,i) (.slice (zp (β p)) W W)).setCell (g,p) (.slice (zp (β i)) W W)) g n W β0 (zOk β i p) v (zFj R i p,piv):=by
 refine⟨h.mx.swapped J u,fun j V=>h.perm _ (zJW J u V),(h.upd.setCell (a:=(g,i)) (fun _=>.inl rfl) _).setCell (a:=(g,p)) (fun _=>.inl rfl) _,?_⟩;have O:Upd (· =g) wr ((wr.setCell (g,i) (.slice (zp (β p)) W W)).setCell (g,p) (.slice (zp (β i)) W W)):=
  ((Upd.refl (· =g) wr).setCell (a:=(g,i)) (fun _=>rfl) _).setCell (a:=(g,p)) (fun _=>rfl) _
 exact h.piv.kept O fun k hk=>h.piv.qa h.mx.gk zd k hk
theorem appended{c:Nat}{u:Value}(h:zAn w wr g n W β0 β v (R,piv))(hv:Vc w' w 3 u (piv.length+1) (fun i=>if i<piv.length then I (piv.getD i 0:Nat)else I (c:Int)))
  (J:Upd (fun b=>some b=v.ownBlock) wr w'):zAn w w' g n W β0 β u (R,piv++[c]):=by
 refine⟨h.mx.upd J (fun e=>h.piv.qa h.mx.gk zd g e.symm rfl) fun i O e=>h.piv.qa (h.mx.kd i O) zd _ e.symm rfl,h.perm,h.upd.trans J fun b e V=>?_,?_⟩;{have:=(h.piv.lt b e.symm).1;omega};{rw[show(piv++[c]).length=piv.length+1 by simp];refine hv.congr fun i O=>?_;by_cases e:i<piv.length;{simp[e,yQ e]};{obtain rfl:i=piv.length:=zo;simp}}
end zAn
theorem zOm(x:UInt8)(w:zw):Calls prog 68 #[B x] w fun e w'=>e=.returned (B (Gf.inv x))∧w'=w:=
 (zNo x w).mono fun _ _ ⟨h1,h2⟩=>⟨h1,h2.symm⟩
theorem zOn:(prog.info? 3).map (fun i=>(i.zero,i.size,i.bytes))=some (some (.int .i64 0),1,8):=by kernel_rfl
theorem zEp{q:Nat->Bool}{p m:Nat}(h:∀k,p≤k->k<p+m->q k=false):zAr q p m=none:=by
 (induction m generalizing p with |zero=>(rfl)|succ m ih=>(simp only[zAr];rw[yl (by rw[h p zo zo];decide)];exact ih fun k J u=>h k zo zo))
theorem zEq{q:Nat->Bool}{p m i:Nat}(J:p≤i)(u:i<p+m)(O:q i=true)(h:∀k,p≤k->k<i->q k=false):zAr q p m=some i:=by
 (induction m generalizing p with |zero=>(omega)|succ m ih=>(simp only[zAr];by_cases e:p=i;{subst e;rw[yq O]};{rw[yl (by rw[h p zo zo];decide)];exact ih zo zo fun k J u=>h k zo u}))
theorem zJX{n c:Nat}{R:Mat}{u:List Nat}(O:u.length≤n)(h:∀q,u.length≤q->q<n->R q c=0):zDM n c (R,u)=(R,u):=by
 unfold zDM;simp only;rw[zEp fun k J V=>by rw[h k J zo];rfl]
theorem zJY{n c i:Nat}{R:Mat}{u:List Nat}(O:u.length≤i)(Z:i<n)(V:R i c≠0)(h:∀q,u.length≤q->q<i->R q c=0):
  zDM n c (R,u)=(zMj (zDc (zFj R i u.length) u.length (Gf.inv (R i c))) u.length (fun r=>zDc (zFj R i u.length) u.length (Gf.inv (R i c)) r c) n,u++[c]):=by
 unfold zDM;simp only;rw[zEq (i:=i) O zo (by simpa using V) fun k hk J=>by rw[h k hk J];rfl];have e:zFj R i u.length u.length c=R i c:=(by unfold zFj;split;{rename_i e;rw[e]};{simp});simp only[e];rfl
theorem zHJ(g n W C b3:Nat)(β0:Nat->Nat)(M:Mat)(w:zw)(hm:Mx w g n W β0 M)(hn:n≤1000000)(hW:W<100)(hC:C≤W):
  Calls prog 141 #[.slice g n b3,I (C:Int)] w fun e w'=>∃v β,e=.returned v∧zAn w w' g n W β0 β v (zAh n M C):=by
 have HM:=zz hm;clear hm;go_enter func141,ntmps141;go_wp2_with fail;go_step3;go_wp2_with fail;go_step3;go_wp2_with fail;go_loopg [5,11] C (fun k v i wr=>∃(c:Nat) (β:Nat->Nat),k=C - c∧c≤C∧i=I c∧zAn w wr g n W β0 β v (zAh n M c));(case atStart=>exact⟨0,β0,rfl,zo,rfl,HM.o,fun i hi=>⟨i,hi,rfl⟩,Upd.refl _ _,Vc.nil _ _ _ _⟩)
 case round=>
  obtain⟨c,β,rfl,hc,rfl,hR⟩:=hrel;obtain⟨va,vb,vc,rfl,b5,b6,c6,b4,_⟩:=hR.piv.shape;have HR:=zz hR;clear hR b5 b6 b4;have a4:=(zEo n M c).ech.le;have V:=zy (zAh n M (c+1)=zDM n c (zAh n M c)) rfl;generalize hs:zAh n M c=s at *;have b7:=zz hs;clear hs;obtain⟨R,u⟩:=s;simp only at a4;by_cases c5:c<C
  ·go_wp2_with fail;go_loopg [5,7] (n - u.length) (fun k v i w2=>∃r:Nat,k=n - r∧u.length≤r∧r≤n∧i=I r∧v=.slice va u.length vc∧w2=wr∧∀q,u.length≤q->q<r->R q c=0);(case atStart=>exact⟨u.length,rfl,zo,a4,rfl,rfl,rfl,fun q h1 h2=>zo⟩)
   case round=>
    obtain⟨r,rfl,c4,c7,rfl,rfl,rfl,hz⟩:=hrel;have HZ:=zz hz;clear hz;by_cases a0:r<n
    ·have c1:wr.cell? (g,r)=some (.slice (zp (β r)) W W):=(by have:=HR.o.mx.outer.cell r a0;simpa using this);have c2:wr.cell? (β r,c)=some (B (R r c)):=(by have:=(HR.o.mx.rows r a0).cell c zo;simpa using this);by_cases J:R r c=0
     ·have ez:((R r c).toNat:Int)=0:=(by rw[J];rfl);have a9:=zz J;clear J;go_wp2_with fail;go_roundg (n - (r+1));(case measure=>omega)
      case rel=>
       exact⟨r+1,rfl,zo,zo,by go_num,rfl,rfl,fun q h1 h2=>by
                                                  by_cases e:q=r
                                                  ·subst e;exact a9.o
                                                  ·exact HZ.o q h1 zo⟩
     ·have ez:((R r c).toNat:Int)≠0:=fun e=>J (yAB (by simpa using e));have O:u.length<n:=zo;have c3:wr.cell? (g,u.length)=some (.slice (zp (β u.length)) W W):=(by have:=HR.o.mx.outer.cell _ O;simpa using this);have f1:wr.frozen? (g,r)=false:=(by have:=HR.o.mx.outer.free r a0;simpa using this);have f3:wr.frozen? (g,u.length)=false:=(by have:=HR.o.mx.outer.free _ O;simpa using this);obtain⟨x1,b0⟩:=cell?_setCell_some (w:=wr) (p:=(g,r)) (x:=.slice (zp (β u.length)) W W) (q:=⟨g,u.length,none⟩) (v:=.slice (zp (β u.length)) W W) c3;go_wp2_with fail;go_region;obtain⟨w3,a5⟩:=zx (((wr.setCell (g,r) (.slice (zp (β u.length)) W W)).setCell (g,u.length) (.slice (zp (β r)) W W)).drew);rw[<-a5];have H3:=zy (zAn w w3 g n W β0 (zOk β r u.length) (.slice va u.length vc) (zFj R r u.length,u)) (a5▸(HR.o.swapped a0 O).drewN 1);have b2:=zz (zTr R r u.length c);have b1:c<W:=zo;have HS:=zz (V.o.trans (zJY c4 a0 J HZ.o));clear a5 c1 c2 c3 f1 f3 b0 ez V HR HZ J;generalize zOk β r u.length=β1 at *;generalize zFj R r u.length=M1 at *;have c1:w3.cell? (g,u.length)=some (.slice (zp (β1 u.length)) W W):=(by have:=H3.o.mx.outer.cell _ O;simpa using this);have c2:w3.cell? (β1 u.length,c)=some (B (M1 u.length c)):=(by have:=(H3.o.mx.rows _ O).cell c zo;simpa using this);go_wp2_with fail;go_still_tail 12,zA7;still_call (zOm _ _);refine wpStill_nil ?_;change wpList _ _ _ _ _ (w3.drewN 1);have a6:=zz (H3.o.mx.rows _ O);go_wp2_with (go_at_call 149;refine(zOx (β1 u.length) W W (M1 u.length) _ _ (a6.o.drewN 1) zo).mono ?_;rintro e w4 ⟨rfl,hd⟩;have H4:=zz (((H3.o.drewN 1).rowDone O hd).congr (N:=zDc M1 u.length (Gf.inv (M1 u.length c))) fun i _ j _=>by unfold zDc;by_cases e:i=u.length<;>simp[e]);clear hd);rw[b2.o]at H4;clear c1 c2 a6 H3;generalize zDc M1 u.length (Gf.inv (R r c))=M2 at *;go_loopg [61] n (fun k i w5=>∃j:Nat,k=n - j∧j≤n∧i=I j∧zAn w w5 g n W β0 β1 (.slice va u.length vc) (zMj M2 u.length (fun r=>M2 r c) j,u));(case atStart=>exact⟨0,rfl,zo,rfl,H4.o.congr fun i _ j _=>by simp[zMj,elim]⟩)
      case round=>
       obtain⟨j,rfl,hj,rfl,h5⟩:=hrel;have Z:=zz h5;clear h5 H4;by_cases a2:j<n
       ·by_cases a1:j=u.length
        ·have b9:((j:Int) !=(u.length:Int))=false:=(by rw[a1];simp);have HJ:=zz a1;clear a1;go_wp2_with fail;go_roundg (n - (j+1));(case measure=>omega)
         case rel=>exact⟨j+1,rfl,zo,by go_num,Z.o.congr fun i _ x _=>by
                                                      rw[HJ.o];unfold zMj elim;by_cases e:i≠u.length∧i<u.length
                                                      ·rw[yq e,yq ⟨e.1,zo⟩]
                                                      ·rw[yl e,yl zo]⟩
        {have b9:((j:Int) !=(u.length:Int))=true:=(by rw[bne_iff_ne];omega);have HJ:=zz a1;clear a1;have c1:wr.cell? (g,u.length)=some (.slice (zp (β1 u.length)) W W):=(by have:=Z.o.mx.outer.cell _ O;simpa using this);have c2:wr.cell? (g,j)=some (.slice (zp (β1 j)) W W):=(by have:=Z.o.mx.outer.cell _ a2;simpa using this);have c3:wr.cell? (β1 j,c)=some (B (M2 j c)):=(by have:=(Z.o.mx.rows _ a2).cell c b1;simp only[bs,zSQ,yc]at this;exact this);have a3:=zz (zKT (zp (β1 u.length)) (β1 j) W W (β1 u.length) 0 W W _ _ (M2 j c) (wr.drewN 1) ((Z.o.mx.rows _ a2).drewN 1) (fun _=>rfl) ((Z.o.mx.rows _ O).rd.drewN 1) (fun _ e=>HJ.o (Z.o.mx.inj _ _ a2 O e.symm)) (yb _) zo hW);go_wp2_with fail;go_still_tail 15,zA7;change wpList _ _ _ _ _ (wr.drewN 1);go_wp2_with (go_at_call 135;refine a3.o.mono ?_;rintro e w6 ⟨rfl,hd⟩;have H6:=zz (((Z.o.drewN 1).rowDone a2 hd).congr (N:=zMj M2 u.length (fun r=>M2 r c) (j+1)) fun i _ x hx=>zOl HJ.o hx);clear hd);go_roundg (n - (j+1));(case measure=>omega);(case rel=>exact⟨j+1,rfl,zo,by go_num,H6.o⟩)}
       {obtain rfl:j=n:=zo;have c0:=Z.o.upd.size;have c9:u.length≤1000000:=zo;go_wp2_with (refine zW rfl (.tmp 84) (.tmp 86) 158 rfl w 3 (.int .i64 0) 8 underlying158 zOn rfl _ u.length _ rfl Z.o.piv (I (c:Int)) _ rfl rfl zo zo c0 ?_;intro v2 w6 a7 a8;have H6:=zz (Z.o.appended a7 a8);clear a7 a8);go_roundg (C - (c+1));(case measure=>omega);(case rel=>exact⟨c+1,β1,rfl,zo,by go_num,by rw[HS.o];exact H6.o⟩)}
    {go_wp2_with fail;go_roundg (C - (c+1));(case measure=>omega);(case rel=>refine⟨c+1,β,rfl,zo,by go_num,?_⟩;rw[V.o,zJX a4 fun q h1 h2=>HZ.o q h1 zo];exact HR.o)}
  {go_wp2_with fail;go_ret;obtain rfl:c=C:=zo;exact⟨_,β,rfl,by rw[b7.o];exact HR.o⟩}
end Go.Proofs.YtonfdlhikinldaaGreatDoor
namespace Go.Proofs.YtonfdlhikinldaaGreatDoor
open Go Go.RowKit Go.Proofs Lin Go.Proofs.Tryz
variable {S:Nat->Sl}{n:Nat}
structure zCP (w wr:zw) (n W k:Nat) (S:Nat->Sl):Prop where
 below:Below w w wr
 size:wr.heap.size=w.heap.size+1+k
 outer:Row wr w 0 n (fun i=>if i<k then .slice (zp (w.heap.size+1+i)) W W else .slice none 0 0)
 rows:∀i,i<k->Row wr (w.heap.size+1+i) 0 W (bs (zLV (S i)))
 kd:∀i,i<k->Kd wr (w.heap.size+1+i) 5
 gk:Kd wr w 31
theorem zCP.start(w:zw)(n W:Nat)(S:Nat->Sl):zCP w (w.alloc (.cells (madeCells #[.slice none 0 0] n) 31)) n W 0 S:=
 ⟨(yh _ _).alloc (yb _) _,by rw[Deep.nblk_alloc],(Row.new w _ n _).congr fun i _=>zs,fun i u=>absurd u zo,fun i u=>absurd u zo,Kd.new _ _ _⟩
theorem zCP.next{w wr w2:zw}{n W k:Nat}(h:zCP w wr n W k S)(hk:k<n)(hL:(S k).n≤W)
  (Z:Upd (· =wr.heap.size) ((wr.alloc (.cells (madeCells #[.int .u8 0] W) 5)).setCell (w,k) (.slice wr W W)) w2)
  (hz:w2.heap.size=((wr.alloc (.cells (madeCells #[.int .u8 0] W) 5)).setCell (w,k) (.slice wr W W)).heap.size)
  (u:zO ((wr.alloc (.cells (madeCells #[.int .u8 0] W) 5)).setCell (w,k) (.slice wr W W)) w2)
  (hr:Row w2 wr 0 W (fun i=>if i<(S k).n then bs (S k).x i else .int .u8 0)):zCP w w2 n W (k+1) S:=by
 have e:=h.size;have J:Kd (wr.alloc (.cells (madeCells #[.int .u8 0] W) 5)) wr 5:=Kd.new _ _ _;rw[e]at Z hz u hr J;refine⟨?_,?_,?_,fun i hi=>?_,fun i hi=>?_,?_⟩
 ·have V:Below w w ((wr.alloc (.cells (madeCells #[.int .u8 0] W) 5)).setCell (w,k) (.slice (zp (w.heap.size+1+k)) W W)):=
   (h.below.alloc zo _).setCell (yb _) _
  exact Below.upd V Z (fun b hb=>zo) (by rw[Deep.nblk_setCell,Deep.nblk_alloc];omega)
 {rw[hz,Deep.nblk_setCell,Deep.nblk_alloc];omega};{have V:=(h.outer.alloc (.cells (madeCells #[.int .u8 0] W) 5)).set hk (.slice (zp (w.heap.size+1+k)) W W);rw[yc]at V;refine(V.upd Z fun _=>zo).congr fun i hi=>?_;by_cases O:i=k;{subst O;simp};{by_cases e2:i<k;{simp[O,e2,show i<k+1 by omega]};{simp[O,e2,show ¬i<k+1 by omega]}}};{by_cases O:i=k;{subst O;refine hr.congr fun j _=>?_;by_cases e2:j<(S i).n<;>simp[bs,B,zLV,e2]};{have V:=(h.rows i zo).alloc (.cells (madeCells #[.int .u8 0] W) 5);exact(V.other (a:=(w,k)) (by show w.heap.size≠_;omega) _).upd Z fun _=>zo}};{by_cases O:i=k;{subst O;exact u _ _ (J.set _ _)};{exact u _ _ (((h.kd i zo).alloc _).set _ _)}};{exact u _ _ ((h.gk.alloc _).set _ _)}
theorem zCP.done{w wr:zw}{n W:Nat}(h:zCP w wr n W n S):Mx wr w n W (fun i=>w.heap.size+1+i) (fun i=>zLV (S i)):=
 ⟨h.outer.congr fun i u=>by simp[u],h.rows,h.kd,fun i j _ _ e=>zo,h.gk⟩
theorem zNN(a:Option Addr)(b o n c W:Nat)(S:Nat->Sl)(w:zw)(ha:0<n->a=some ⟨b,o,none⟩)
  (O:Rd w b o n (fun i=>(S i).v))(J:∀i,i<n->(S i).ok w)(hL:∀i,i<n->(S i).n≤W)(hn:n≤1000000)(hW:W≤1000000):
  Calls prog 140 #[.slice a n c,I (W:Int)] w fun e w'=>e=.returned (.slice w n n)∧zCP w w' n W n S:=by
 have HO:=zz O;have HK:=zz J;have HL:=zz hL;clear O J hL;have a6:=zJJ (n:Int) zo zo;have a5:=zA2 (W:Int) zo zo;simp only[yAy]at a6 a5;go_enter func140,ntmps140;go_wp2;go_loopw [13] (fun i wr=>∃k:Nat,k≤n∧i=I k∧zCP w wr n W k S) (fun i _=>n - (intOf i).toNat);(case atStart=>exact⟨0,zo,rfl,zCP.start _ _ _ _⟩);(case round=>obtain⟨k,hk,rfl,a3⟩:=hrel;have V:=zz a3;clear a3;by_cases u:k<n;{obtain rfl:=ha zo;have c1:wr.cell? (b,o+k)=some (.slice (S k).a (S k).n (S k).c):=(HO.o.later V.o.below) k u;have c2:=fun ob=>(by have:=(V.o.outer.alloc ob).cell k u;simpa using this);have f2:=fun ob=>(by have:=(V.o.outer.alloc ob).free k u;simpa using this);have Z:=HL.o k u;have J:=zz (HK.o k u);have a7:0<n->w.heap.size<wr.heap.size:=fun _=>(by have:=V.o.size;omega);go_wp2_with (refine zCQ rfl (.tmp 26) (.tmp 27) 31 31 rfl 5 underlying31 zE2 _ _ _ _ _ _ rfl rfl (S k).n wr 0 W (S k).b (S k).o (fun _=>.int .u8 0) (bs (S k).x) (by show(S k).n=min (S k).n W;omega) Z ((Row.new _ _ _ _).other (by show w.heap.size≠wr.heap.size;have:=a7 zo;omega) _) (((J.o.rd.later V.o.below).alloc _).other (fun h0=>by show w.heap.size≠_;have:=J.o.rd.lt h0;omega) _) (fun _=>rfl) J.o.addr (fun _ _=>rfl) ?_;intro w2 a4 a0 a2 a1;have HN:=zz (V.o.next u Z a4 a0 a2 a1);clear a4 a0 a2 a1);go_roundw;(case rel=>exact⟨k+1,zo,by go_num,HN.o⟩);(case measure=>simp[intOf];omega)};{go_wp2;go_ret;obtain rfl:k=n:=zo;exact⟨rfl,V.o⟩})
def wid(S:Nat->Sl):Nat->Nat
 | 0=>0
 | k+1=>Nat.max (wid S k) (S k).n
theorem zTq(S:Nat->Sl){i k:Nat}(h:i<k):(S i).n≤wid S k:=by
 (induction k with |zero=>(omega)|succ k ih=>(simp only[wid];by_cases e:i=k;{subst e;exact Nat.le_max_right _ _};{exact yC (ih zo) (Nat.le_max_left _ _)}))
def zFD(n:Nat)(S:Nat->Sl):Int:=if n≤64∧wid S n≤64 then((zAh n (fun i=>zLV (S i)) (wid S n)).2.length:Int)else -1
theorem zOi(t s:Nat):(if t<s then(s:Int)else(t:Int))=((Nat.max t s:Nat):Int):=by
 show _=((max t s:Nat):Int);split<;>omega
theorem zMf(h:64<n):zFD n S=-1:=by unfold zFD;rw[yl zo]
theorem zMg(h:64<wid S n):zFD n S=-1:=by unfold zFD;rw[yl zo]
theorem zH9(h:n≤64)(h':wid S n≤64):zFD n S=((zAh n (fun i=>zLV (S i)) (wid S n)).2.length:Int):=by unfold zFD;rw[yq ⟨h,h'⟩]
theorem zLa(a:Option Addr)(b o n c:Nat)(S:Nat->Sl)(w:zw)(ha:0<n->a=some ⟨b,o,none⟩)
  (J:Rd w b o n (fun i=>(S i).v))(V:∀i,i<n->(S i).ok w)(hn:n≤1099511627776):
  Calls prog 123 #[.slice a n c] w fun e w'=>e=.returned (I (zFD n S))∧Below w w w':=by
 have HO:=zz J;have HK:=zz V;clear J V;go_enter func123,ntmps123;go_wp2_with fail;go_loop [3,8] (fun m i=>∃k:Nat,k≤n∧i=I k∧m=I (wid S k)) (fun _ i=>n - (intOf i).toNat);(case atStart=>exact⟨0,zo,rfl,rfl⟩);(case round=>obtain⟨k,hk,rfl,rfl⟩:=hrel;by_cases Z:k<n;{obtain rfl:=ha zo;have c1:w.cell? (b,o+k)=some (.slice (S k).a (S k).n (S k).c):=HO.o k Z;have hw:=zy (wid S (k+1)=Nat.max (wid S k) (S k).n) rfl;generalize wid S k=t at *;go_wp2_with fail;go_round;(case rel=>exact⟨k+1,zo,by go_num,by rw[hw.o,zOi]⟩);(case measure=>simp[intOf];omega)};{obtain rfl:k=n:=zo;by_cases h1:k≤64;{by_cases h2:wid S k≤64;{have u:=zz (zNN a b o k c (wid S k) S w ha HO.o HK.o (fun i hi=>zTq S hi) zo zo);have O:=zz (zH9 h1 h2);generalize wid S k=W at *;go_wp2_with (go_at_call 140;refine u.o.mono ?_;rintro e w1 ⟨rfl,hc⟩;have HC:=zz hc;clear hc);refine(zHJ w k W W k (fun i=>w.heap.size+1+i) (fun i=>zLV (S i)) _ HC.o.done zo zo (yb _)).mono ?_;rintro e w2 ⟨v,β,rfl,hr⟩;obtain⟨va,vb,vc,rfl,_,_,_,_,_⟩:=hr.piv.shape;have HR:=zz hr;clear hr;go_wp2_with fail;go_ret;refine⟨zHw O.o.symm,?_⟩;exact Below.upd HC.o.below HR.o.upd (fun b hb=>by rcases hb with rfl | ⟨j,_,rfl⟩<;>omega) HC.o.below.size};{go_wp2_with fail;go_ret;exact⟨zHw (zMg zo).symm,yh _ _⟩}};{go_wp2_with fail;go_ret;exact⟨zHw (zMf zo).symm,yh _ _⟩}})
theorem zJV{S T:Nat->Sl}:∀{n:Nat},(∀i,i<n->(S i).n=(T i).n)->wid S n=wid T n
 | 0,_=>rfl
 | n+1,h=>by simp only[wid];rw[zJV fun i u=>h i zo,h n zo]
theorem zQY{n w:Nat}{M N:Mat}(h:∀i,i<n->M i=N i):rk (Lin.Rows n M) w=rk (Lin.Rows n N) w:=
 zOD (fun _ ⟨i,h0,hi,e⟩=>.row ⟨i,h0,hi,e.trans (h i hi)⟩) (fun _ ⟨i,h0,hi,e⟩=>.row ⟨i,h0,hi,e.trans (h i hi).symm⟩) w
theorem zKW{S T:Nat->Sl}(h:∀i,i<n->(S i).n=(T i).n)(u:∀i,i<n->zLV (S i)=zLV (T i)):zFD n S=zFD n T:=by
 unfold zFD;rw[zJV h,zCq,zCq,zQY u]
theorem zND:Tryz.zeroCells292=madeCells #[.int .u8 0] 256:=by kernel_rfl
theorem Row.kg(w:zw)(n:Nat)(t:TypeId)(cs:Array Value)(h:cs=madeCells #[.int .u8 0] n):Row (w.alloc (.cells cs t)) w 0 n (bs fun _=>0):=by
 subst h;exact(Row.new w (.int .u8 0) n t).congr fun i _=>(by simp[bs,B])
theorem zPY(x z:UInt8)(w:zw):Calls prog 99 #[B x,.int .u8 (IntKind.u8.wrap (z.toNat:Int))] w fun e w'=>e=.returned (B (Gf.mul x z))∧w'=w:=by
 have e:IntKind.u8.wrap (z.toNat:Int)=(z.toNat:Int):=(by show(z.toNat:Int) % 2^8=_;have:=z.toNat_lt;omega);rw[e];exact zJL x z w
theorem zS6(c:UInt8)(w:zw):Calls prog 147 #[B c] w fun e w'=>e=.returned (.pointer (zp (w.heap.size)))∧Below w w w'∧Row w' w 0 256 (bs (fun j=>Gf.mul c (UInt8.ofNat j))):=by
 have HR:=zz (Row.kg w 256 292 _ zND);go_enter func147,ntmps147;go_wp2_with fail;generalize hW:w.alloc (.cells Tryz.zeroCells292 292)=W at *;have O:=zz (hW▸(yh w w).alloc (yb _) _);clear hW;go_loopg [7] 256 (fun g i wr=>∃m:Nat,g=256 - m∧m≤256∧i=I m∧zA5 W wr w 256 m (fun _=>0) (fun j=>Gf.mul c (UInt8.ofNat j)));(case atStart=>exact⟨0,rfl,zo,rfl,zA5.start HR.o⟩);(case round=>obtain⟨m,rfl,hm,rfl,hd⟩:=hrel;have J:=zz hd;clear hd;by_cases u:m<256;{have d1:=(J.o.drewN 1).cellAt u;have d2:=(J.o.drewN 1).qu u;obtain⟨z,V⟩:∃z:UInt8,z.toNat=m:=⟨UInt8.ofNat m,by rw[yAl];omega⟩;have HZ:=zy (Gf.mul c z=Gf.mul c (UInt8.ofNat m)) (by rw[<-V,UInt8.ofNat_toNat]);subst V;have Z:z.toNat<256:=z.toNat_lt;go_wp2_with fail;go_still_tail 8,zA7;still_call (zPY _ z _);(repeat still_step);refine wpStill_nil ?_;change wpList _ _ _ _ _ (wr.drewN 1);go_wp2_with fail;go_roundg (256 - (z.toNat+1));(case measure=>omega);(case rel=>exact⟨z.toNat+1,rfl,zo,by go_num,(J.o.drewN 1).next u (by rw[HZ.o])⟩)};{obtain rfl:m=256:=zo;go_wp2_with fail;go_ret;exact⟨rfl,Below.upd O.o J.o.upd (fun b e=>zo) O.o.size,J.o.done.row⟩})
structure zPQ (w w':zw) (g n:Nat) (y:Nat->UInt8):Prop where
 upd:Upd (· =g) w w'
 kd:zO w w'
 row:Row w' g 0 n (bs y)
theorem zQR.added{w w':zw}{g n:Nat}{y:Nat->UInt8}(h:zQR w w' g n y):zPQ w w' g n y:=⟨h.upd,h.kd,h.row⟩
theorem zLr(a:Option Addr)(g n c b o m c':Nat)(x y:Nat->UInt8)(s:UInt8)(w:zw)(hx:Row w g 0 n (bs x))(ha:0<m->a=some ⟨b,o,none⟩)(hy:Rd w b o m (bs y))(hb:0<m->b≠g)(hm:m≤n)(hn:n≤1000000)
  (h0:s≠0)(h1:s≠1)(hs:¬m<100):
  Calls prog 135 #[.slice g n c,.slice a m c',B s] w fun e w'=>e=.returned (.tuple #[])∧zPQ w w' g n (fun j=>if j<m then x j^^^Gf.mul s (y j)else x j):=by
 have hg:=hx.lt zo;have HX:=zz hx;have HY:=zz hy;clear hx hy;have e0:((s.toNat:Int)==0)=false:=zCo (n:=0) h0 zo;have e1:((s.toNat:Int)==1)=false:=zCo (n:=1) h1 zo;have Z:decide ((m:Int)<100)=false:=(by simp;omega);obtain rfl:=ha zo;have a0:=hb zo;have a4:=HY.o.lt zo;go_enter func135,ntmps135;go_wp2_with (go_at_call 147;refine(zS6 s _).mono ?_;rintro e w1 ⟨rfl,V,ht⟩;have u:=zz V;have HT:=zz ht;clear V ht);have a3:=HT.o.lt zo;go_loopw [40] (fun i wr=>∃k:Nat,k≤m∧i=I k∧zA5 w1 wr g n k x (fun j=>if j<m then x j^^^Gf.mul s (y j)else x j)) (fun i _=>m - (intOf i).toNat);(case atStart=>exact⟨0,zo,rfl,zA5.start (HX.o.later u.o)⟩);(case round=>obtain⟨k,hk,rfl,Z⟩:=hrel;have J:=zz Z;clear Z;by_cases O:k<m;{have c1:=J.o.cellAt (show k<n by omega);have f1:=J.o.qu (show k<n by omega);have c2:wr.cell? (b,o+k)=some (B (y k)):=((HY.o.later u.o).upd J.o.upd fun _=>a0) k O;have a1:(y k).toNat<256:=(y k).toNat_lt;have c3:wr.cell? (w,(y k).toNat)=some (B (Gf.mul s (y k))):=(by have:=(HT.o.upd J.o.upd fun _=>zo).cell (y k).toNat (y k).toNat_lt;rw[yc]at this;rw[this];simp[bs]);have a6:k<n:=zo;have a2:((y k).toNat:Int)<256:=zo;have a5:(0:Int)≤((y k).toNat:Int):=zo;go_wp2_with fail;go_still_tail 11,zA7;change wpList _ _ _ _ _ (wr.drewN 1);go_wp2;go_roundw;(case rel=>exact⟨k+1,zo,by go_num,(J.o.drewN 1).next zo (by simp only[yq O];exact zTP _ _)⟩);(case measure=>simp[intOf];omega)};{go_wp2;go_returns;obtain rfl:k=m:=zo;have hU:Upd (· =g) w w1:=(Upd.of_below u.o).mono fun _ _ h=>h.elim;exact⟨rfl,hU.trans J.o.upd fun _ e _=>e,(zO.below u.o).trans J.o.kd,J.o.row.congr fun j _=>by by_cases e:j<k<;>simp[bs,e]⟩})
theorem zIU(a:Option Addr)(g n c b o m J:Nat)(x y:Nat->UInt8)(s:UInt8)(w:zw)(u:Row w g 0 n (bs x))(O:0<m->a=some ⟨b,o,none⟩)(hy:Rd w b o m (bs y))(Z:0<m->b≠g)(V:m≤n)(hn:n≤1000000):
  Calls prog 135 #[.slice g n c,.slice a m J,B s] w fun e w'=>e=.returned (.tuple #[])∧zPQ w w' g n (fun j=>if j<m then x j^^^Gf.mul s (y j)else x j):=by
 by_cases h0:s=0;{subst h0;refine(zHG _ _ w).mono ?_;rintro e w' ⟨rfl,rfl⟩;exact⟨rfl,Upd.refl _ _,zO.refl _,u.congr fun j _=>by by_cases e:j<m<;>simp[bs,e,Gf.zero_mul]⟩};by_cases h1:s=1;{subst h1;exact(zJK a g n c b o m J x y w u O hy Z V hn).mono fun e w' ⟨h,hd⟩=>⟨h,hd.added⟩};by_cases hs:m<100;{exact(zF8 a g n c b o m J x y s w u O hy Z V hn h0 h1 hs).mono fun e w' ⟨h,hd⟩=>⟨h,hd.added⟩};{exact zLr a g n c b o m J x y s w u O hy Z V hn h0 h1 hs}
end Go.Proofs.YtonfdlhikinldaaGreatDoor
