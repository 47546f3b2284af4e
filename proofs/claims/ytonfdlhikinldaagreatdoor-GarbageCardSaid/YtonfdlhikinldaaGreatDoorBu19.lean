import Derived.Test.YtonfdlhikinldaaGreatDoorBu04
import Derived.Test.YtonfdlhikinldaaGreatDoorBu03
import Derived.Test.YtonfdlhikinldaaGreatDoorBu08
import Derived.Test.YtonfdlhikinldaaGreatDoorBu02
set_option maxRecDepth 100000
set_option linter.all false
set_option linter.unusedVariables false
set_option maxHeartbeats 16000000
namespace Go.Proofs.YtonfdlhikinldaaGreatDoor
open Go Go.RowKit Go.Proofs Lin Go.Proofs.Tryz
def zGi(sh:Nat->Nat->UInt8)(s:Stp)(M:Nat->Nat->UInt8):Nat->Nat->UInt8:=
 if s.k.toNat=0 then fun r=>if r=s.a.toNat then sh s.b.toNat else M r
 else if s.k.toNat=1 then fun r=>if r=s.a.toNat then(fun t=>M s.a.toNat t^^^Gf.mul s.c (M s.b.toNat t))else M r
 else M
def zB7(sh:Nat->Nat->UInt8)(S:Nat->Stp):Nat->Nat->Nat->UInt8
 | 0=>fun _ _=>0
 | k+1=>zGi sh (S k) (zB7 sh S k)
def zDX(sh:Nat->Nat->UInt8)(S:Nat->Stp):Nat->List (Int × (Nat->UInt8))
 | 0=>[]
 | k+1=>if(S k).k.toNat=2 then zDX sh S k++[((S k).b,zB7 sh S k (S k).a.toNat)]else zDX sh S k
theorem zLh(sh:Nat->Nat->UInt8)(S:Nat->Stp):∀k,(zDX sh S k).length≤k
 | 0=>yb _
 | k+1=>by
  have:=zLh sh S k;unfold zDX;split
  ·rw[yB,yZ];omega
  ·omega
abbrev Od:Int × (Nat->UInt8):=(0,fun _=>0)
def zRQ(γ:Nat->Nat)(N:Nat)(L:List (Int × (Nat->UInt8)))(i j:Nat):Value:=if j=0 then I (L.getD i Od).1 else .slice (zp (γ i)) N N
structure zKc (base u:Nat) (w:zw) (v:Value) (L:List (Int × (Nat->UInt8))) (N:Nat) (γ:Nat->Nat):Prop where
 vz:Vz w base u 2 v L.length (zRQ γ N L)
 row:∀j,j<L.length->Row w (γ j) 0 N (bs (L.getD j Od).2)
 kd:∀j,j<L.length->Kd w (γ j) 5
 own:∀j,j<L.length->base≤γ j
 up:∀i j,i<j->j<L.length->γ i<γ j
namespace zKc
variable {base te N:Nat} {w w1 w3:zw} {v v3:Value} {L:List (Int × (Nat->UInt8))} {γ:Nat->Nat}
theorem start(base J:Nat)(w:zw)(N:Nat)(γ:Nat->Nat):zKc base J w (.slice none 0 0) [] N γ:=
 ⟨Vz.nil _ _ _ _ _,fun j u=>absurd u zs,fun j u=>absurd u zs,fun j u=>absurd u zs,fun i j _ u=>absurd u zs⟩
theorem upd{G:Nat->Prop}(h:zKc base te w v L N γ)(J:Upd G w w1)(O:∀j,j<L.length->¬G (γ j))(V:∀k,v.ownBlock=some k->¬G k):zKc base te w1 v L N γ:=
 ⟨h.vz.kept J V,fun j u=>(h.row j u).upd J fun _=>O j u,fun j u=>(h.kd j u).upd J (O j u),h.own,h.up⟩
theorem later(h:zKc base te w v L N γ)(u:Below w w w1):zKc base te w1 v L N γ:=h.upd (Upd.of_below u) (fun _ _=>id) (fun _ _=>id)
theorem next(h:zKc base te w v L N γ)(a1:te≠5){ν:Nat}{b:Int}{x:Nat->UInt8}(V:Below w w w1)(hν:w.heap.size≤ν)(hB:base≤w.heap.size)(hr:Row w1 ν 0 N (bs x))(hk:Kd w1 ν 5)
  (hv:Vz w3 base te 2 v3 (L.length+1) (fun i j=>if i<L.length then zRQ γ N L i j else(#[I b,.slice ν N N]:Array Value).getD j (.bool false)))(Z:Upd (fun b=>some b=v.ownBlock) w1 w3):
  zKc base te w3 v3 (L++[(b,x)]) N (fun j=>if j<L.length then γ j else ν):=by
 have O:(L++[(b,x)]).length=L.length+1:=zs;have u:∀k,Kd w1 k 5->¬some k=v.ownBlock:=fun k hk e=>(h.vz.later V).qa hk (fun e=>a1 e.symm) k e.symm rfl;refine⟨?_,fun j J=>?_,fun j J=>?_,fun j J=>?_,fun i j a0 J=>?_⟩;{rw[O];refine hv.congr fun i hi j J=>?_;by_cases e:i<L.length;{rw[yq e];unfold zRQ;simp only[yq e,yg,yQ e]};{obtain rfl:i=L.length:=zo;rw[yl e];unfold zRQ;simp only[yl e];rcases(show j=0∨j=1 by omega)with rfl | rfl;{simp};{simp}}};{rw[O]at J;by_cases e:j<L.length;{simp only[yq e,yg,yQ e];have:=((h.row j e).later V).upd Z fun _=>u _ ((h.kd j e).later V);simpa[yg]using this};{obtain rfl:j=L.length:=zo;simp only[yl e];have:=hr.upd Z fun _=>u _ hk;simpa using this}};{rw[O]at J;by_cases e:j<L.length;{simp only[yq e];exact((h.kd j e).later V).upd Z (u _ ((h.kd j e).later V))};{simp only[yl e];exact hk.upd Z (u _ hk)}};{rw[O]at J;by_cases e:j<L.length;{simp only[yq e];exact h.own j e};{simp only[yl e];omega}};{rw[O]at J;by_cases e:j<L.length;{simp only[yq e,yq (show i<L.length by omega)];exact h.up i j a0 e};{simp only[yl e,yq (show i<L.length by omega)];have:=(h.kd i zo).lt;omega}}
end zKc
theorem Mx.ka{G:Nat->Prop}{w w':zw}{g n W:Nat}{β:Nat->Nat}{M:Nat->Nat->UInt8}(h:Mx w g n W β M)(J:Upd G w w')(V:∀i,i<n->¬G (β i))(O:¬G g):Mx w' g n W β M:=
 ⟨h.outer.upd J fun _=>O,fun i u=>(h.rows i u).upd J fun _=>V i u,fun i u=>(h.kd i u).upd J (V i u),h.inj,h.gk.upd J O⟩
theorem Mx.j1{w w':zw}{g n W:Nat}{β:Nat->Nat}{M:Nat->Nat->UInt8}(h:Mx w g n W β M)(u:Below w w w'):Mx w' g n W β M:=h.ka (Upd.of_below u) (fun _ _=>id) id
theorem Mx.ju{w w':zw}{g n W:Nat}{β:Nat->Nat}{M:Nat->Nat->UInt8}(h:Mx w g n W β M){i:Nat}(O:i<n){x:Nat->UInt8}(J:Upd (· =β i) w w')(hk:zO w w')(V:Row w' (β i) 0 W (bs x)):
  Mx w' g n W β (fun r=>if r=i then x else M r):=by
 refine⟨h.outer.upd J fun _ e=>h.ne O e.symm,fun r u=>?_,fun r u=>hk _ _ (h.kd r u),h.inj,hk _ _ h.gk⟩;by_cases e:r=i;{subst e;simp only[yBa];exact V};{simp only[yl e];exact(h.rows r u).upd J fun _ Z=>e (h.inj r i u O Z)}
theorem zQk(w:zw)(base N:Nat)(O:base≤w.heap.size)(V:N≤1000000):
  (w.alloc (.cells (madeCells #[.int .u8 0] N) 5)).drew.ownsRow base 5 1 (.slice w 0 N) 0 []:=by
 obtain⟨cs,J,u⟩:∃cs:Array Value,madeCells #[.int .u8 0] N=cs∧cs.size=N:=⟨_,rfl,by simp[madeCells]⟩;exact⟨rfl,.inr ⟨w.heap.size,N,_,rfl,O,Deep.blk_alloc_new _ _,yAO _,by unfold maxLen;omega,by rw[J,u,Nat.mul_one],zs⟩⟩
theorem zSV{w':zw}{base ν N:Nat}{X:Nat->UInt8}(h:w'.ownsRow base 5 1 (.slice ν (0+N) N) (0+N) ([]++(List.range N).map (bs X))):Row w' ν 0 N (bs X)∧Kd w' ν 5:=by
 rw[yc,yAe]at h;obtain⟨hl,h⟩:=h;rcases h with⟨hv,_⟩ | ⟨g,Z,u,hv,hb,J,hn,hm,hs,ht⟩;{cases hv};{cases hv;refine⟨⟨fun i V=>?_,fun i V=>?_⟩,u,J⟩;{simp only[World.cell?,J,yc];have:u.toList[i]? =some (bs X i):=(by have O:(u.toList.take (N*1))[i]? =((List.range N).map (bs X))[i]? :=(by rw[ht]);rw[yAu,yq zo]at O;rw[O];simp[V]);simpa using this};{simp[World.frozen?,J]}}
theorem zOw{w:zw}{b N:Nat}{X:Nat->UInt8}(h:Rd w b 0 N (bs X)):∀j u,((List.range N).map (bs X))[j]? =some u->w.cell? ((⟨b,0,none⟩:Addr).add j)=some u:=fun j u V=>by
 by_cases O:j<N
 ·have J:=zBB b 0 j;rw[J,h j O];simpa[O]using V
 ·simp[O]at V
structure zEW (w wr:zw) (g R N k:Nat):Prop where
 below:Below w w wr
 gown:w.heap.size≤g
 outer:Row wr g 0 R (fun i=>if i<k then .slice (zp (g+1+i)) N N else .slice none 0 0)
 rows:∀i,i<k->Row wr (g+1+i) 0 N (bs fun _=>0)
 kd:∀i,i<k->Kd wr (g+1+i) 5
 gk:Kd wr g 31
 size:wr.heap.size=g+1+k
theorem zEW.start{w u:zw}(O:Below w w u)(R N:Nat):zEW w (u.alloc (.cells (madeCells #[.slice none 0 0] R) 31)) u R N 0:=
 ⟨O.alloc O.size _,O.size,(Row.new u (.slice none 0 0) R 31).congr fun i J=>zs,fun i J=>absurd J zo,fun i J=>absurd J zo,Kd.new _ _ _,by rw[yw]⟩
theorem zEW.next{w wr:zw}{g R N k:Nat}(h:zEW w wr g R N k)(hk:k<R):
  zEW w ((wr.alloc (.cells (madeCells #[.int .u8 0] N) 5)).setCell (g,k) (.slice wr N N)) g R N (k+1):=by
 have hg:g<wr.heap.size:=(by rw[h.size];omega)
 have Z:=h.below.size;have u:Upd (· =g) (wr.alloc (.cells (madeCells #[.int .u8 0] N) 5)) ((wr.alloc (.cells (madeCells #[.int .u8 0] N) 5)).setCell (g,k) (.slice wr N N)):=
  (Upd.refl (· =g) _).setCell (a:=(g,k)) (fun _=>rfl) _
 refine⟨Below.upd (h.below.alloc Z _) u (fun b e=>by have:=h.gown;omega) (by rw[yw];omega),h.gown,?_,fun i V=>?_,fun i V=>?_,(h.gk.alloc _).set _ _,by rw[Deep.nblk_setCell,yw,h.size];omega⟩;{have:=((h.outer.alloc (.cells (madeCells #[.int .u8 0] N) 5)).set hk (.slice wr N N));rw[yc]at this;refine this.congr fun i V=>?_;by_cases e:i=k;{subst e;simp[h.size]};{by_cases O:i<k;{simp[e,O,show i<k+1 by omega]};{simp[e,O,show ¬i<k+1 by omega]}}};{by_cases e:i<k;{exact((h.rows i e).alloc _).upd u fun _ e'=>zo};{obtain rfl:i=k:=zo;have J:Row (wr.alloc (.cells (madeCells #[.int .u8 0] N) 5)) (g+1+i) 0 N (bs fun _=>0):=(by rw[<-h.size];exact(Row.new wr (.int .u8 0) N 5).congr fun _ _=>rfl);exact J.upd u fun _ e'=>zo}};{by_cases e:i<k;{exact((h.kd i e).alloc _).upd u zo};{obtain rfl:i=k:=zo;have J:Kd (wr.alloc (.cells (madeCells #[.int .u8 0] N) 5)) (g+1+i) 5:=(by rw[<-h.size];exact Kd.new _ _ _);exact J.upd u zo}}
theorem zEW.done{w wr:zw}{g R N:Nat}(h:zEW w wr g R N R):Mx wr g R N (fun i=>g+1+i) (fun _ _=>0):=
 ⟨h.outer.congr fun i u=>by simp[u],h.rows,h.kd,fun i j _ _ e=>by simp at e;omega,h.gk⟩
end Go.Proofs.YtonfdlhikinldaaGreatDoor
namespace Go.Proofs.YtonfdlhikinldaaGreatDoor
open Go Go.RowKit Go.Proofs Lin Go.Proofs.Tryz
variable {f:Nat->Nat->Value}{a:Option Addr}
theorem zKc.els{base J N:Nat}{w:zw}{v:Value}{L:List (Int × (Nat->UInt8))}{γ:Nat->Nat}(h:zKc base J w v L N γ):
  ∃a b c,v=.slice a L.length c∧Els w a b 0 2 L.length c (zRQ γ N L):=by
 obtain⟨a,b,c,rfl,u,_⟩:=h.vz.shape;exact⟨a,b,c,rfl,u⟩
theorem Els.ze{w:zw}{b n c:Nat}(h:Els w a b 0 2 n c f){k:Nat}(hk:k<n):w.cell? (b,k*2)=some (f k 0):=by
 have:=h.at hk (show 0<2 by omega);rwa[yc,yAk]at this
theorem Els.qe{w:zw}{b n c:Nat}(h:Els w a b 0 2 n c f){k:Nat}(hk:k<n):w.cell? (b,k*2+1)=some (f k 1):=by
 have:=h.at hk (show 1<2 by omega);rwa[yc]at this
end Go.Proofs.YtonfdlhikinldaaGreatDoor
