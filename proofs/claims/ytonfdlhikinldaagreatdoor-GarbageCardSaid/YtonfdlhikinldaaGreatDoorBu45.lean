import Derived.Test.YtonfdlhikinldaaGreatDoorBu43
import Derived.Test.YtonfdlhikinldaaGreatDoorBu42e
import Derived.Test.YtonfdlhikinldaaGreatDoorBu39
import Derived.Test.YtonfdlhikinldaaGreatDoorBu32
import Derived.Test.YtonfdlhikinldaaGreatDoorBu44
set_option maxRecDepth 100000
set_option linter.all false
set_option linter.unusedVariables false
set_option maxHeartbeats 16000000
namespace Go.Proofs.YtonfdlhikinldaaGreatDoor
open Go Go.RowKit Go.Proofs Lin Go.Proofs.Tryz
variable {L G:Nat}{B:Nat}{w w':zw}{A:Arr}{s:Ast}
structure Dim (A u:Arr):Prop where
 n:u.n=A.n
 m:u.m=A.m
 w:u.wait=A.wait
theorem Dim.refl(A:Arr):Dim A A:=⟨rfl,rfl,rfl⟩
theorem Dim.trans{A B C:Arr}(h:Dim A B)(k:Dim B C):Dim A C:=⟨k.n.trans h.n,k.m.trans h.m,k.w.trans h.w⟩
theorem Dim.set(A:Arr)(d:Nat)(x:Drv):Dim A (A.set d x):=⟨rfl,rfl,rfl⟩
theorem Dim.rd(A:Arr)(d b:Nat):Dim A (A.rd d b).2.2:=by
 unfold Arr.rd;split;{exact Dim.refl A};{split<;>exact Dim.set A d _}
theorem Dim.wr(A:Arr)(d b:Nat)(x:Nat->UInt8):Dim A (A.wr d b x).2:=by
 unfold Arr.wr;split;{exact Dim.refl A};{exact Dim.set A d _}
theorem Dim.qj(A:Arr)(d b:Nat):Dim A (A.qj d b).2.2:=by
 unfold Arr.qj;split<;>exact Dim.rd A d b
theorem Dim.qv(A:Arr)(d b:Nat)(f:Frm.Frm):Dim A (A.qv d b f):=Dim.wr A d b _
theorem Dim.tryP(b q:Nat)(s:Sst)(i:Nat):Dim s.A (tryP b q s i).A:=by
 unfold Go.Proofs.YtonfdlhikinldaaGreatDoor.tryP;split;{exact Dim.refl _};{exact Dim.qj s.A i b}
theorem Dim.loadsP{b q:Nat}:∀(l:List Nat) (t:Sst × Bool),Dim t.1.A (loadsP b q t l).1.A
 | [],t=>Dim.refl _
 | i::l,t=>by
  exact(Dim.tryP b q t.1 i).trans (Dim.loadsP (b:=b) (q:=q) l (Go.Proofs.YtonfdlhikinldaaGreatDoor.tryP b q t.1 i,t.2&&((Go.Proofs.YtonfdlhikinldaaGreatDoor.tryP b q t.1 i).sh i).isSome))
theorem Dim.repP{D L G b q:Nat}:∀(f:Nat) (s:Sst),Dim s.A (repP D L G b q f s).1.A
 | 0,s=>Dim.refl _
 | f+1,s=>by
  unfold Go.Proofs.YtonfdlhikinldaaGreatDoor.repP;have h:=Dim.loadsP (b:=b) (q:=q) (zAV D L (D+L+G) s.lost) (s,true)
  split
  ·exact Dim.refl _
  ·split
   ·exact Dim.refl _
   ·split
    ·exact h
    ·exact h.trans (Dim.repP f _)
theorem Dim.tryN(b q:Nat)(s:Sst):∀k,Dim s.A (tryN b q s k).A
 | 0=>Dim.refl _
 | k+1=>(Dim.tryN b q s k).trans (Dim.tryP b q _ k)
theorem Dim.getP(D L G b q:Nat)(A:Arr):Dim A (getP D L G b q A).2:=(Dim.tryN b q (zEY A) D).trans (Dim.repP 17 _)
theorem Dim.tryE(b q:Nat)(o:Option Nat)(s:Sst):∀k,Dim s.A (tryE b q o s k).A
 | 0=>Dim.refl _
 | k+1=>by
  unfold Go.Proofs.YtonfdlhikinldaaGreatDoor.tryE
  split
  ·exact Dim.tryE b q o s k
  ·exact(Dim.tryE b q o s k).trans (Dim.tryP b q _ k)
theorem Dim.healS(N b q:Nat)(o:Option Nat)(A:Arr):Dim A (healS N b q o A).A:=by
 have h:=Dim.tryE b q o (zEY A) N;unfold Go.Proofs.YtonfdlhikinldaaGreatDoor.healS zMR;cases o<;>exact h
theorem Dim.hwTo(b q:Nat)(o:Option Nat)(sh:Nat->Option (Nat->UInt8)):∀(l:List Nat) (A:Arr),Dim A (hwTo b q o sh A l)
 | [],A=>Dim.refl _
 | i::l,A=>by
  have h:Dim A (if o=none∨o=some i then A.qv i b (zGZ q i (bytesOf sh i))else A):=by
   split
   ·exact Dim.qv _ _ _ _
   ·exact Dim.refl _
  exact h.trans (Dim.hwTo b q o sh l _)
theorem Dim.healP(D L G b q:Nat)(o:Option Nat)(A:Arr):Dim A (healP D L G b q o A).2:=by
 unfold Go.Proofs.YtonfdlhikinldaaGreatDoor.healP;have h:=(Dim.healS (D+L+G) b q o A).trans (Dim.repP (D:=D) (L:=L) (G:=G) (b:=b) (q:=q) 17 (Go.Proofs.YtonfdlhikinldaaGreatDoor.healS (D+L+G) b q o A));split;{exact h.trans (Dim.hwTo _ _ _ _ _ _)};{exact h}
theorem Dim.healsP(D L G:Nat)(o:Option Nat):∀(l:List (Nat × Nat)) (A:Arr),Dim A (healsP D L G o l A).2
 | [],A=>Dim.refl _
 | p::l,A=>by
  unfold Go.Proofs.YtonfdlhikinldaaGreatDoor.healsP;have h:=Dim.healP D L G p.1 p.2 o A
  split
  ·exact h.trans (Dim.healsP D L G o l _)
  ·exact h
theorem Dim.annTo(o:Bool)(h:Hd)(A:Arr):∀k,Dim A (annTo o h A k)
 | 0=>Dim.refl _
 | k+1=>by
  refine(Dim.annTo o h A k).trans ?_;show Dim _ (zCO o h (Go.Proofs.YtonfdlhikinldaaGreatDoor.annTo o h A k) k);unfold zCO
  split
  ·split
   ·exact Dim.qj _ _ _
   ·exact(Dim.qj _ _ _).trans (Dim.qv _ _ _ _)
  ·exact Dim.qv _ _ _ _
theorem Dim.hdTo(A:Arr):∀k,Dim A (hdTo A k).A
 | 0=>Dim.refl _
 | k+1=>by
  refine(Dim.hdTo A k).trans ?_;show Dim _ (zB1 (Go.Proofs.YtonfdlhikinldaaGreatDoor.hdTo A k) k).A;unfold zB1
  split
  ·exact Dim.rd _ _ _
  ·split
   ·exact Dim.rd _ _ _
   ·split<;>exact Dim.rd _ _ _
theorem Dim.opnTo(D L G:Nat)(h:Hd)(s:zP4):Dim s.A (opnTo D L G h s).2.2:=by
 unfold Go.Proofs.YtonfdlhikinldaaGreatDoor.opnTo;split;{split;{exact Dim.annTo _ _ _ _};{exact Dim.refl _}};{split;{exact Dim.annTo _ _ _ _};{exact Dim.refl _}}
theorem Dim.folP(D L G size:Nat):∀(k:Nat) (p:Nat × Nat) (u:List UInt8) (J:List (Nat × Nat)) (A:Arr),Dim A (folP D L G size k p u J A).2
 | 0,_,_,_,_=>Dim.refl _
 | k+1,p,u,J,A=>by
  unfold Go.Proofs.YtonfdlhikinldaaGreatDoor.folP
  split
  ·exact Dim.refl _
  ·split
   ·exact Dim.refl _
   ·have h:=Dim.getP D L G p.1 p.2 A;generalize Go.Proofs.YtonfdlhikinldaaGreatDoor.getP D L G p.1 p.2 A=r at *;obtain⟨x,O⟩:=r
    cases x with
    | none=>exact h
    | some x=>exact h.trans (Dim.folP D L G size k _ _ _ O)
theorem Dim.putTo(D L b q:Nat)(X:Nat->Nat->UInt8)(A:Arr):∀k,Dim A (putTo D L b q X A k)
 | 0=>Dim.refl _
 | k+1=>(Dim.putTo D L b q X A k).trans (Dim.qv _ _ _ _)
theorem Dim.putP(D L N b q n:Nat)(x:Nat->UInt8)(A:Arr):Dim A (putP D L N b q n x A):=Dim.putTo _ _ _ _ _ _ _
theorem Dim.wlTo(D L N:Nat)(b:List UInt8)(u:List (Nat × Nat))(A:Arr):∀k,Dim A (wlTo D L N b u A k)
 | 0=>Dim.refl _
 | k+1=>(Dim.wlTo D L N b u A k).trans (Dim.putP _ _ _ _ _ _ _ _)
theorem Dim.putsTo(D L N q:Nat)(B:List Nat)(d:List UInt8)(A:Arr):∀k,Dim A (putsTo D L N q B d A k)
 | 0=>Dim.refl _
 | k+1=>(Dim.putsTo D L N q B d A k).trans (Dim.putP _ _ _ _ _ _ _ _)
theorem Dim.headTo(D L G:Nat)(s:Ast)(A:Arr)(l:List Ob)(size:Nat)(B:List Nat):Dim A (headTo D L G s A l size B).A:=
 (Dim.wlTo _ _ _ _ _ _ _).trans (Dim.annTo _ _ _ _)
theorem Dim.commitD(D L G:Nat)(s:Ast)(l:List Ob):Dim s.A (commitD D L G s l).2.A:=by
 rw[zCX];split;{exact Dim.refl _};{exact Dim.headTo _ _ _ _ _ _ _ _}
theorem Dim.commitA(D L G:Nat)(s:Ast)(n:ByteArray)(d:List UInt8):Dim s.A (commitA D L G s n d).2.A:=by
 unfold Go.Proofs.YtonfdlhikinldaaGreatDoor.commitA;dsimp only;split;{exact Dim.refl _};{exact(Dim.putsTo _ _ _ _ _ _ _ _).trans (Dim.headTo _ _ _ _ _ _ _ _)}
theorem Dim.putR(D L G:Nat)(s:Ast)(n:ByteArray)(d:List UInt8):Dim s.A (putR D L G s n d).2.A:=by
 unfold Go.Proofs.YtonfdlhikinldaaGreatDoor.putR;split;{exact Dim.refl _};{split;{exact Dim.refl _};{split;{exact Dim.refl _};{exact Dim.commitA _ _ _ _ _ _}}}
theorem Dim.deleteR(D L G:Nat)(s:Ast)(n:ByteArray):Dim s.A (deleteR D L G s n).2.A:=by
 unfold Go.Proofs.YtonfdlhikinldaaGreatDoor.deleteR;split;{exact Dim.refl _};{exact Dim.commitD _ _ _ _ _}
theorem Dim.getTo(D L G q:Nat)(l:List Nat)(A:Arr):∀k,Dim A (getTo D L G q l A k).2
 | 0=>Dim.refl _
 | k+1=>by
  have h:=Dim.getTo D L G q l A k;unfold Go.Proofs.YtonfdlhikinldaaGreatDoor.getTo
  split
  ·exact h
  ·split
   ·exact h.trans (Dim.getP _ _ _ _ _ _)
   ·exact h.trans (Dim.getP _ _ _ _ _ _)
theorem Dim.readR(D L G:Nat)(s:Ast)(n:ByteArray):Dim s.A (readR D L G s n).2.2:=by
 unfold Go.Proofs.YtonfdlhikinldaaGreatDoor.readR;split;{exact Dim.refl _};{have h:=Dim.getTo D L G (s.L.getD (zAf s.L n).1 Obd).seq (s.L.getD (zAf s.L n).1 Obd).blk s.A (s.L.getD (zAf s.L n).1 Obd).blk.length;generalize Go.Proofs.YtonfdlhikinldaaGreatDoor.getTo D L G (s.L.getD (zAf s.L n).1 Obd).seq (s.L.getD (zAf s.L n).1 Obd).blk s.A (s.L.getD (zAf s.L n).1 Obd).blk.length=r at *;obtain⟨x,u⟩:=r;cases x<;>exact h}
theorem Dim.openR(D L G:Nat)(s:Ast):Dim s.A (openR D L G s).2.A:=by
 unfold Go.Proofs.YtonfdlhikinldaaGreatDoor.openR;have h:=Dim.hdTo s.A (D+L+G);split;{have u:=h.trans (Dim.folP D L G (Go.Proofs.YtonfdlhikinldaaGreatDoor.hdTo s.A (D+L+G)).latest.size ((Go.Proofs.YtonfdlhikinldaaGreatDoor.hdTo s.A (D+L+G)).A.m+2) ((Go.Proofs.YtonfdlhikinldaaGreatDoor.hdTo s.A (D+L+G)).latest.fb,(Go.Proofs.YtonfdlhikinldaaGreatDoor.hdTo s.A (D+L+G)).latest.fs) [] [] (Go.Proofs.YtonfdlhikinldaaGreatDoor.hdTo s.A (D+L+G)).A);change Dim s.A (zIT D L G (Go.Proofs.YtonfdlhikinldaaGreatDoor.hdTo s.A (D+L+G)).latest (Go.Proofs.YtonfdlhikinldaaGreatDoor.hdTo s.A (D+L+G)).A).2 at u;generalize zIT D L G (Go.Proofs.YtonfdlhikinldaaGreatDoor.hdTo s.A (D+L+G)).latest (Go.Proofs.YtonfdlhikinldaaGreatDoor.hdTo s.A (D+L+G)).A=f at *;obtain⟨J,V⟩:=f;(cases J with |none=>(exact u)|some p=>(obtain⟨b,O⟩:=p;dsimp only;(cases zIc b with |none=>(exact u)|some l=>(dsimp only;split;{exact u.trans (Dim.annTo _ _ _ _)};{exact u}))))};{exact h.trans (Dim.opnTo _ _ _ _ _)}
theorem Dim.scrubR(D L G:Nat)(s:Ast):Dim s.A (scrubR D L G s).2.A:=by
 unfold Go.Proofs.YtonfdlhikinldaaGreatDoor.scrubR;have h:=Dim.healsP D L G none (zBu s.L s.sp) s.A;split;{exact h.trans (Dim.annTo _ _ _ _)};{exact h}
theorem zR6(D L G:Nat)(s:Ast):(openR D L G s).2.A.n=s.A.n∧(openR D L G s).2.A.wait=s.A.wait∧(openR D L G s).2.A.m=s.A.m:=⟨(Dim.openR D L G s).n,(Dim.openR D L G s).w,(Dim.openR D L G s).m⟩
theorem zRG(n:ByteArray):∀(L:List Ob) (k:Nat),k<lbN L n->zBI (L.getD k Obd).name n<0
 | [],k,h=>by simp[lbN]at h
 | o::L,k,h=>by
  by_cases c:zBI o.name n<0
  ·have e:lbN (o::L) n=lbN L n+1:=(by unfold lbN;rw[yBb,yq (by simpa using c),yF]);rw[e]at h
   cases k with
   | zero=>exact c
   | succ k=>exact zRG n L k zo
  ·have e:lbN (o::L) n=0:=(by unfold lbN;rw[yBb,yl (by simpa using c)];rfl);omega
theorem zTj(n:ByteArray):∀(L:List Ob),lbN L n<L.length->0≤zBI (L.getD (lbN L n) Obd).name n
 | [],h=>by simp[lbN]at h
 | o::L,h=>by
  by_cases c:zBI o.name n<0
  ·have e:lbN (o::L) n=lbN L n+1:=(by unfold lbN;rw[yBb,yq (by simpa using c),yF]);rw[e]at h ⊢;rw[yF]at h;exact zTj n L zo
  ·have e:lbN (o::L) n=0:=(by unfold lbN;rw[yBb,yl (by simpa using c)];rfl);rw[e];exact Int.not_lt.1 c
theorem zR7(L:List Ob)(i:Nat)(o:Ob)(h:i≤L.length):(L.insertIdx i o).length=L.length+1:=by
 rw[List.length_insertIdx,yq h]
theorem zMZ{L:List Ob}(hs:zAd L)(o:Ob):zAd (L.insertIdx (lbN L o.name) o):=by
 have u:=zSh L o.name;refine zAd.of fun k hk=>?_;rw[zR7 _ _ _ u]at hk;rw[zB9 _ _ _ _ u,zB9 _ _ _ _ u];by_cases V:k+1<lbN L o.name;{rw[yq V,yq zo];exact hs k (k+1) zo zo};{rw[yl V];by_cases O:k+1=lbN L o.name;{rw[yq O,yq zo];have:=zRG o.name L k zo;omega};{rw[yl O];by_cases J:k=lbN L o.name;{rw[yl zo,yq J,Nat.add_sub_cancel];have:=zTj o.name L zo;rw[<-J]at this;have:=zDA (L.getD k Obd).name o.name;omega};{rw[yl zo,yl J,Nat.add_sub_cancel];exact hs (k - 1) k zo zo}}}
theorem zJD{L:List Ob}(hs:zAd L)(i:Nat)(Z:i<L.length):zAd (L.eraseIdx i):=by
 intro a b O V;rw[yBI,yq Z]at V;rw[zBx,zBx];by_cases u:a<i<;>by_cases J:b<i;{rw[yq u,yq J];exact hs _ _ O zo};{rw[yq u,yl J];exact hs _ _ zo zo};{omega};{rw[yl u,yl J];exact hs _ _ zo zo}
theorem zOM(n r:Nat)(u:0<r):n≤(n+r - 1) / r*r:=by
 have O:=yBu (n+r - 1) r;have J:=yAM (n+r - 1) u;rw[yAW];generalize r*((n+r - 1) / r)=t at *;omega
theorem zON{D:Nat}(u:1≤D)(n:Nat):n≤zEb D n*(D*44):=zOM n (D*44) zo
theorem zOO{D:Nat}(u:1≤D)(n:Nat):n≤zPj D n*(D*44):=by
 have h:=zOM n (D*44 - 12) zo;exact yC h (Nat.mul_le_mul_left _ (Nat.sub_le _ _))
structure Inv (D nb:Nat) (s:Ast):Prop where
 m:s.A.m=nb
 srt:zAd s.L
 cat:(zCE s.L).length≤(nb+2)*(D*44)
 bk:∀o∈s.L,o.size≤o.blk.length*(D*44)
 us:∀p∈zBu s.L s.sp,p.1<nb
 sp:s.sp.length≤nb+2
 ok:s.h.ok
section
variable {D nb:Nat} {s:Ast}
theorem Inv.zh(h:Inv D nb s)(O:D≤6)(V:nb≤307):(zCE s.L).length≤100000:=by
 have J:=h.cat;have u:(nb+2)*(D*44)≤309*264:=yAJ zo zo;omega
theorem Inv.len(h:Inv D nb s)(O:D≤6)(J:nb≤307):s.L.length≤10000:=by
 have u:=h.zh O J;rw[zA8]at u;have:=zHc s.L;omega
theorem Inv.bd(h:Inv D nb s)(u:D≤6)(J:nb≤307):Bd s:=by
 have V:=h.zh u J;have O:=h.len u J;have h3:=zHb s.L;have Z:=zA8 s.L;exact⟨h.srt,zo,zo,by have:=h.sp;omega,zo,by rw[h.m];omega,h.ok⟩
theorem Inv.arr(h:Inv D nb s){u:Arr}(J:Dim s.A u):Inv D nb {s with A:=u}:=⟨J.m.trans h.m,h.srt,h.cat,h.bk,h.us,h.sp,h.ok⟩
theorem zH5{L:List Ob}{u:List (Nat × Nat)}{p:Nat × Nat}:p∈zBu L u↔p∈u∨∃o∈L,p.1∈o.blk∧p.2=o.seq:=by
 obtain⟨b,q⟩:=p;unfold zBu;rw[yAr,List.mem_flatMap];refine or_congr Iff.rfl (exists_congr fun o=>and_congr Iff.rfl ?_);unfold oS;rw[yAn];exact⟨fun⟨x,V,e⟩=>by cases e;exact⟨V,rfl⟩,fun⟨J,O⟩=>⟨b,J,by rw[<-O]⟩⟩
theorem Inv.head(h:Inv D nb s)(hA:A.m=nb){l:List Ob}{size:Nat}{B:List Nat}(hs:zAd l)(hc:(zCE l).length≤(nb+2)*(D*44))(hk:∀o∈l,o.size≤o.blk.length*(D*44))
  (Z:∀o∈l,∀b∈o.blk,b<nb)(J:∀b∈B,b<nb)(hl:B.length≤nb+2)(hz:size<2^32)(a0:nb≤307):Inv D nb (headTo D L G s A l size B):=by
 have O:zC1 s<2^64:=yAM _ zd;refine⟨(Dim.headTo D L G s A l size B).m.trans hA,hs,hc,hk,fun p u=>?_,?_,?_⟩;{rcases zH5.1 u with u | ⟨o,ho,u,_⟩;{change p∈B.map fun b=>(b,zC1 s)at u;obtain⟨b,hb,rfl⟩:=List.mem_map.1 u;exact J b hb};{exact Z o ho _ u}};{change(B.map fun b=>(b,zC1 s)).length≤_;rw[yH];exact hl};{have V:((B.map fun b=>(b,zC1 s)).getD 0 (0,0)).1<2^32∧((B.map fun b=>(b,zC1 s)).getD 0 (0,0)).2<2^64:=(by (cases B with |nil=>(exact⟨(by decide:(0:Nat)<2^32),(by decide:(0:Nat)<2^64)⟩)|cons b B=>(have:=J b zs;exact⟨by show b<_;omega,O⟩)));exact⟨h.ok.D,h.ok.L,h.ok.G,hz,V.1,V.2,O⟩}
theorem zJE{x:Nat}(u:x∈zA0 s):x<s.A.m:=by
 unfold zA0 sel at u;rw[List.mem_filter,yAq]at u;exact u.1
theorem zLS:(zA0 s).length≤s.A.m:=by
 unfold zA0;exact zAw _ _
theorem Inv.zy9(h:Inv D nb s):∀o∈s.L,∀b∈o.blk,b<nb:=fun o J b u=>h.us (b,o.seq) (zH5.2 (.inr ⟨o,J,u,rfl⟩))
theorem Inv.commitD(h:Inv D nb s)(u:1≤D)(hD:D≤6)(V:nb≤307)(i:Nat)(hi:i<s.L.length):Inv D nb (commitD D L G s (s.L.eraseIdx i)).2:=by
 rw[zCX];split;{exact h};{rename_i hlt;have Z:=zLS (s:=s);rw[h.m]at Z;have hc:(zCE (s.L.eraseIdx i)).length≤(nb+2)*(D*44):=yC (zOO u _) (yBn _ zo);have h2:(nb+2)*(D*44)≤309*264:=yAJ zo zo;refine h.head h.m (zJD h.srt i hi) hc (fun o J=>h.bk o (yBK J)) (fun o J=>h.zy9 o (yBK J)) (fun b O=>?_) ?_ zo V;{have:=zJE (yBG O);rw[h.m]at this;exact this};{rw[yR];omega}}
theorem Inv.commitA(h:Inv D nb s)(a0:1≤D)(hD:D≤6)(hb:nb≤307)(n:ByteArray)(d:List UInt8):Inv D nb (commitA D L G s n d).2:=by
 unfold Go.Proofs.YtonfdlhikinldaaGreatDoor.commitA;dsimp only;split;{exact h};{rename_i hlt;have hf:=zLS (s:=s);rw[h.m]at hf;have hl:=zSh s.L n;have O:(((zA0 s).take (zEb D d.length+zPj D ((zCE s.L).length+(13+n.size+4*zEb D d.length)))).take (zEb D d.length)).length=zEb D d.length:=(by rw[yR,yR];omega);generalize hB:(zA0 s).take (zEb D d.length+zPj D ((zCE s.L).length+(13+n.size+4*zEb D d.length)))=B at *;have Z:∀b∈B,b<nb:=fun b u=>(by rw[<-hB]at u;have:=zJE (yBG u);rw[h.m]at this;exact this);have a1:B.length≤nb:=(by rw[<-hB,yR];omega);have hz:(zCE s.L).length+(13+n.size+4*zEb D d.length)≤(nb+2)*(D*44):=yC (zOO a0 _) (yBn _ zo);have h2:(nb+2)*(D*44)≤309*264:=yAJ zo zo;have V:∀o∈s.L.insertIdx (lbN s.L n) (⟨n,d.length,zC1 s,B.take (zEb D d.length)⟩:Ob),o=⟨n,d.length,zC1 s,B.take (zEb D d.length)⟩∨o∈s.L:=fun o J=>(by rcases(List.mem_insertIdx hl).1 J with e | e;{exact .inl e};{exact .inr e});refine h.head ((Dim.putsTo _ _ _ _ _ _ _ _).m.trans h.m) (zMZ h.srt ⟨n,d.length,zC1 s,B.take (zEb D d.length)⟩) ?_ (fun o J=>?_) (fun o J b u=>?_) (fun b u=>Z b (List.mem_of_mem_drop u)) ?_ zo hb;{rw[zFc _ _ _ hl];show _+(13+n.size+4*(B.take (zEb D d.length)).length)≤_;rw[O];exact hz};{rcases V o J with rfl | J;{show d.length≤(B.take (zEb D d.length)).length*_;rw[O];exact zON a0 _};{exact h.bk o J}};{rcases V o J with rfl | J;{exact Z b (yBG u)};{exact h.zy9 o J b u}};{rw[yAA];omega}}
theorem Inv.putR(h:Inv D nb s)(u:1≤D)(J:D≤6)(O:nb≤307)(n:ByteArray)(d:List UInt8):Inv D nb (putR D L G s n d).2:=by
 unfold Go.Proofs.YtonfdlhikinldaaGreatDoor.putR;split;{exact h};{split;{exact h};{split;{exact h};{exact h.commitA u J O n d}}}
theorem Inv.deleteR(h:Inv D nb s)(u:1≤D)(J:D≤6)(O:nb≤307)(n:ByteArray):Inv D nb (deleteR D L G s n).2:=by
 unfold Go.Proofs.YtonfdlhikinldaaGreatDoor.deleteR;split;{exact h};{rename_i hn;exact h.commitD u J O _ (zK9 hn)}
theorem Inv.scrubR(h:Inv D nb s):Inv D nb (scrubR D L G s).2:=by
 have u:=Dim.scrubR D L G s;have e:(Go.Proofs.YtonfdlhikinldaaGreatDoor.scrubR D L G s).2={s with A:=(Go.Proofs.YtonfdlhikinldaaGreatDoor.scrubR D L G s).2.A}:=(by unfold Go.Proofs.YtonfdlhikinldaaGreatDoor.scrubR;split<;>rfl);rw[e];exact h.arr u
end
theorem zLT{D L G size:Nat}:∀(k:Nat) (p:Nat × Nat) (J:List UInt8) (O:List (Nat × Nat)) (A Z:Arr) (b:List UInt8) (u:List (Nat × Nat)),folP D L G size k p J O A=(some (b,u),Z)->J.length≤O.length*(D*44)->O.length≤A.m+1->b.length≤u.length*(D*44)∧u.length≤A.m+1
 | 0,_,_,_,_,_,_,_,h,_,_=>by simp[folP]at h
 | k+1,p,J,O,A,Z,b,u,h,h1,h2=>by
  unfold folP at h
  split at h
  ·injection h with h _;injection h with h;injection h with e1 e2;subst e1;subst e2;rw[yR];exact⟨zo,h2⟩
  ·split at h
   ·simp at h
   ·rename_i hn
    have V:=zNs D L G p.1 p.2 A;generalize getP D L G p.1 p.2 A=r at *;obtain⟨x,A1⟩:=r
    cases x with
    | none=>simp at h
    | some x=>
     dsimp only at h V;have:=zLT k _ _ _ A1 Z b u h (by
      rw[yB,yB,yAA,yF,yK];have:(xl (D*44) x).length=D*44:=(by unfold xl;simp);rw[this,yc,Nat.succ_mul];omega) (by rw[yB,yF,yK,V];omega)
     rw[V]at this;exact this
theorem zKP{D M:Nat}{l:List Ob}{J:List (Nat × Nat)}(h:zCv D M l J=true):zAd l∧(∀o∈l,o.blk.length=zEb D o.size)∧∀p∈zBu l J,p.1<M:=by
 unfold zCv at h;rw[yD,yD,yW,yW]at h;obtain⟨⟨Z,V⟩,h3⟩:=h;refine⟨zGN.1 h3,fun o O=>by simpa using Z o O,fun p u=>?_⟩;have hm:p.1∈zCF l J:=(by unfold zCF;rw[yAr,yAr,List.mem_reverse,List.mem_reverse,List.mem_flatMap,yAn];rcases zH5.1 u with u | ⟨o,O,u,_⟩;{exact .inr (.inl ⟨p,u,rfl⟩)};{exact .inl ⟨o,O,u⟩});have:=V _ hm;rw[yD]at this;simpa using this.2
theorem zOP{D L G:Nat}(u:zA6 D L G):(zEn D L G).ok:=by
 have:=u.sum;exact⟨by show D<256;omega,by show L<256;omega,by show G<256;omega,by show(0:Nat)<_;decide,by show(0:Nat)<_;decide,by show(0:Nat)<_;decide,by show(0:Nat)<_;decide⟩
theorem Inv.openR{D L G nb:Nat}(hR:zA6 D L G)(hm:A.m=nb)(J:(openR D L G (s0 A)).1=none):Inv D nb (openR D L G (s0 A)).2:=by
 have a0:=Dim.openR D L G (s0 A);have hD:=hR.d1;have a3:=zFt A (D+L+G);have a1:=(Dim.hdTo A (D+L+G)).m;have u:=a0.m.trans hm;have a2:zAd ([]:List Ob):=fun i j _ h=>absurd h zs;have a4:(zCE []).length≤(nb+2)*(D*44):=(by have:2*44≤(nb+2)*(D*44):=yAJ zo zo;have:(zCE []).length=6:=(by rw[zA8];rfl);omega);unfold Go.Proofs.YtonfdlhikinldaaGreatDoor.openR at J u ⊢;split at J;{rename_i hc;rw[yq hc]at u ⊢;have hf:=fun b Z A'=>zLT (D:=D) (L:=L) (G:=G) (size:=(hdTo A (D+L+G)).latest.size) ((hdTo A (D+L+G)).A.m+2) ((hdTo A (D+L+G)).latest.fb,(hdTo A (D+L+G)).latest.fs) [] [] (hdTo A (D+L+G)).A A' b Z;change∀b Z A',zIT D L G (hdTo (s0 A).A (D+L+G)).latest (hdTo (s0 A).A (D+L+G)).A=_->_ at hf;have V:=(Dim.folP D L G (hdTo A (D+L+G)).latest.size ((hdTo A (D+L+G)).A.m+2) ((hdTo A (D+L+G)).latest.fb,(hdTo A (D+L+G)).latest.fs) [] [] (hdTo A (D+L+G)).A).m;change(zIT D L G (hdTo (s0 A).A (D+L+G)).latest (hdTo (s0 A).A (D+L+G)).A).2.m=_ at V;generalize zIT D L G (hdTo (s0 A).A (D+L+G)).latest (hdTo (s0 A).A (D+L+G)).A=f at *;obtain⟨f1,A'⟩:=f;(cases f1 with |none=>(simp at J)|some p=>(obtain⟨b,Z⟩:=p;dsimp only at J u V ⊢;(cases O:zIc b with |none=>(rw[O]at J;simp at J)|some l=>(rw[O]at J u;dsimp only at J u ⊢;split at J;{rename_i hs;rw[yq hs]at u ⊢;obtain⟨h1,h2,h3⟩:=zKP hs;have h4:=hf b Z A' rfl zs zs;have h5:=zKw O;have a5:=V.trans (a1.trans hm);have h6:=a1.trans hm;change(hdTo A (D+L+G)).A.m=nb at h6;rw[h6]at h4;refine⟨u,h1,?_,fun o ho=>by rw[h2 o ho];exact zON hD _,fun p hp=>by have:=h3 p hp;rw[a5]at this;exact this,by show Z.length≤_;omega,a3⟩;show(zCE l).length≤_;have h7:Z.length*(D*44)≤(nb+1)*(D*44):=yBn _ h4.2;have h8:(nb+2)*(D*44)=(nb+1)*(D*44)+D*44:=Nat.succ_mul _ _;omega};{simp at J}))))};{rename_i hc;rw[yl hc]at u ⊢;refine⟨u,a2,a4,fun o ho=>absurd ho (by simp[s0]),fun p hp=>absurd hp (by simp[s0,zBu]),by simp[s0],?_⟩;have h0:=zFt A 0;show(opnTo D L G hd0 (hdTo A (D+L+G))).2.1.ok;unfold Go.Proofs.YtonfdlhikinldaaGreatDoor.opnTo;split;{split;{exact a3};{exact h0}};{split;{exact zOP hR};{exact h0}}}
theorem Kd.uniq{w:zw}{b t u:Nat}(h:Kd w b t)(h':Kd w b u):t=u:=by
 rcases Nat.decEq t u with hne | he;{exact absurd rfl (h.ne h' hne)};{exact he}
def okK(t:Nat):Prop:=t=126∨t=87∨t=91∨t=40∨t=4∨t=173∨t=171∨t=47∨t=61
def zUi(B:Nat)(w:zw)(c:Nat):Prop:=B≤c∧∀t,Kd w c t->okK t
def Trn(B:Nat)(w w':zw):Prop:=Upd (zUi B w) w w'
theorem Trn.trans{w J w2:zw}(h:Trn B w J)(k:Trn B J w2):Trn B w w2:=Upd.trans h k fun c hc O=>by
 by_cases u:zUi B w c
 ·exact u
 ·exact⟨hc.1,fun t V=>hc.2 t (V.upd h u)⟩
theorem Trn.below(u:Below w w w'):Trn B w w':=(Upd.of_below u).mono fun _ _ h=>h.elim
theorem Trn.refl(B:Nat)(w:zw):Trn B w w:=Upd.refl _ _
theorem Trn.of{X:Nat->Prop}(u:Upd X w w')(J:∀c,X c->B≤c∧∀t,Kd w c t->okK t):Trn B w w':=u.mono fun c _ hc=>J c hc
theorem Trn.one{B g t:Nat}(J:Upd (· =g) w w')(hk:Kd w g t)(O:okK t)(u:B≤g):Trn B w w':=Trn.of J fun c hc=>by
 obtain rfl:c=g:=hc;exact⟨u,fun V h'=>by rw[h'.uniq hk];exact O⟩
theorem Trn.arr{l:zAK}(u:zT w l A)(O:Upd (l.own A.n) w w')(J:∀c,l.own A.n c->B≤c):Trn B w w':=Trn.of O fun c hc=>⟨J c hc,fun t V=>by
 rcases u.kind hc V with e | e | e | e<;>subst e<;>simp[okK]⟩
theorem Trn.arc{m:Loc}{s s':Ast}{E:List Nat}{J O:Value}(H:ArE w m s E J O)(Z:ArR w m E s' w')(u:m.base=B):Trn B w w':=Trn.of Z.upd fun c hc=>⟨by rw[<-u];exact H.jm hc,fun t V=>by
                                                                                                                                                                                                               rcases H.qo hc V with e | e | e | e | e | e | e<;>subst e<;>simp[okK]⟩
theorem Trn.kept{w:zw}{t:Nat}(u:¬okK t):∀c,zUi B w c->¬Kd w c t:=fun c hc hk=>u (hc.2 t hk)
theorem Trn.o{u w w':zw}(h:Trn B w w')(O:Below B u w)(J:B≤w.heap.size):Below B u w':=Below.upd O h (fun c hc=>hc.1) J
structure Wst where
 s:Ast
 R:List RO
 c:Nat
abbrev pv(b:Nat):Value:=.pointer (zp b)
structure zJC (B:Nat) (w:zw) (wb D L G nb:Nat) (q:Wst) (m:Loc) (sb rb:Nat) (E:List Nat) (J O:Value) (V:Option Addr) (rk rc:Nat) (S:Nat->Il) (oV u:Value):Prop where
 eB:m.base=B
 wB:B≤wb
 eD:m.D=D
 eL:m.L=L
 eG:m.G=G
 row:Row w wb 0 10 (zEa D L G (pv m.l.ab) (pv sb) (pv rb) nb oV u q.c)
 kd:Kd w wb 47
 box:Row w sb 0 1 (fun _=>pv m.ar)
 bkd:Kd w sb 99
 ar:ArE w m q.s E J O
 rf:RfA w rb q.R V rk rc S
 laid:zCt w
 tb:2<B
structure zKO (B:Nat) (w:zw) (wb D L G nb:Nat) (A:Arr) (R:List RO) (c:Nat) (l:zAK) (u:Value) (rb:Nat) (J:Option Addr) (rk rc:Nat) (S:Nat->Il) (oV O:Value):Prop where
 wB:B≤wb
 row:Row w wb 0 10 (zEa D L G (pv l.ab) u (pv rb) nb oV O c)
 kd:Kd w wb 47
 arr:zT w l A
 right:zA6 D L G
 n:A.n=D+L+G
 wait:A.wait<0
 lo:∀c,l.own A.n c->B≤c
 bs:B≤w.heap.size
 rf:RfA w rb R J rk rc S
 laid:zCt w
 tab:Tb w
 tb:2<B
 te:0<B
def WlM(B:Nat)(w:zw)(wb D L G nb:Nat)(q:Wst)(m:Loc)(sb:Nat):Prop:=∃rb E J O V rk rc S oV u,zJC B w wb D L G nb q m sb rb E J O V rk rc S oV u
def WlX(B:Nat)(w:zw)(wb D L G nb:Nat)(q:Wst):Prop:=∃m sb,WlM B w wb D L G nb q m sb
def WaX(B:Nat)(w:zw)(wb D L G nb:Nat)(A:Arr)(R:List RO)(c:Nat):Prop:=∃l u rb J rk rc S oV O,zKO B w wb D L G nb A R c l u rb J rk rc S oV O
theorem zCd{w:zw}{wb D L G:Nat}{av sv rv V wv:Value}{n c:Int}(hr:Row w wb 0 10 (zEa D L G av sv rv n V wv c))(Z:Tb w)(O:zCt w):wb≠2∧wb≠0:=by
 have u:=hr.cell 0 zo;refine⟨fun e=>?_,fun e=>?_⟩;{have J:=Z 0 zd;rw[e,yc,J]at u;simp[zEa]at u};{rw[e,yc]at u;have J:_=_:=O;rw[J]at u;simp[zEa]at u}
section
variable {B:Nat} {w w':zw} {wb D L G nb:Nat} {q:Wst} {m:Loc} {sb rb:Nat} {E:List Nat} {ov lv:Value} {ra:Option Addr} {rk rc:Nat} {S:Nat->Il} {oV wV:Value}
theorem zJC.to(H:zJC B w wb D L G nb q m sb rb E ov lv ra rk rc S oV wV){s':Ast}{E':List Nat}{ov' lv':Value}(J:Upd (eX m E) w w')(V:ArE w' m s' E' ov' lv'):zJC B w' wb D L G nb {q with s:=s'} m sb rb E' ov' lv' ra rk rc S oV wV:=
 ⟨H.eB,H.wB,H.eD,H.eL,H.eG,H.row.upd J fun _ u=>H.ar.qc zd _ u H.kd,H.kd.upd J fun u=>H.ar.qc zd _ u H.kd,
  H.box.upd J fun _ u=>H.ar.qc zd _ u H.bkd,H.bkd.upd J fun u=>H.ar.qc zd _ u H.bkd,V,
  H.rf.upd J fun g O=>⟨H.ar.qc zd g O,H.ar.qc zd g O,H.ar.qc zd g O⟩,H.laid.upd J H.ar.jc,H.tb⟩
theorem zJC.call(H:zJC B w wb D L G nb q m sb rb E ov lv ra rk rc S oV wV){s':Ast}(J:ArR w m E s' w'):∃E' ov' lv',zJC B w' wb D L G nb {q with s:=s'} m sb rb E' ov' lv' ra rk rc S oV wV:=by
 obtain⟨E',ov',lv',u,_,O⟩:=J;exact⟨E',ov',lv',H.to O u⟩
theorem zJC.later(H:zJC B w wb D L G nb q m sb rb E ov lv ra rk rc S oV wV)(u:Below w w w'):zJC B w' wb D L G nb q m sb rb E ov lv ra rk rc S oV wV:=
 H.to ((Upd.of_below u).mono fun _ _ h=>h.elim) (H.ar.later u)
theorem ArE.j5(H:ArE w m s E ov lv){g t:Nat}(hk:Kd w g t)(u:t≠126∧t≠87∧t≠91∧t≠40∧t≠4∧t≠143∧t≠31∧t≠5):¬m.own g:=fun h=>by
 obtain⟨J,h',e⟩:=H.dsk.arc.qb h;have:=hk.uniq h';subst this;rcases e with e | e | e | e | e | e | e | e
 ·exact u.1 e
 ·exact u.2.1 e
 ·exact u.2.2.1 e
 ·exact u.2.2.2.1 e
 ·exact u.2.2.2.2.1 e
 ·exact u.2.2.2.2.2.1 e
 ·exact u.2.2.2.2.2.2.1 e
 ·exact u.2.2.2.2.2.2.2 e
theorem ArE.other(H:ArE w m s E ov lv){g t:Nat}(u:Upd (· =g) w w')(hk:Kd w g t)(O:g≠2)(J:t=47∨t=61):ArE w' m s E ov lv:=
 H.aside u fun c hc _=>by
  obtain rfl:c=g:=hc;refine⟨H.j5 hk ?_,O,t,hk,?_⟩<;>rcases J with rfl | rfl<;>decide
theorem zJC.jj(H:zJC B w wb D L G nb q m sb rb E ov lv ra rk rc S oV wV)(Z:Upd (· =wb) w w')(V:zO w w'){c2 rb2:Nat}{R2:List RO}{O:Option Addr}{J u:Nat}{S2:Nat->Il}{oV2 wV2:Value}
  (hr:Row w' wb 0 10 (zEa D L G (pv m.l.ab) (pv sb) (pv rb2) nb oV2 wV2 c2))(hf:RfA w rb2 R2 O J u S2):zJC B w' wb D L G nb ⟨q.s,R2,c2⟩ m sb rb2 E ov lv O J u S2 oV2 wV2:=
 ⟨H.eB,H.wB,H.eD,H.eL,H.eG,hr,V _ _ H.kd,H.box.upd Z fun _ e=>absurd e (H.bkd.ne H.kd zd),V _ _ H.bkd,H.ar.other Z H.kd (zCd H.row H.ar.dsk.tab H.laid).1 (.inl rfl),
  hf.upd Z fun g hg=>by obtain rfl:g=wb:=hg;exact⟨fun h=>absurd (h.uniq H.kd) zd,fun h=>absurd (h.uniq H.kd) zd,fun h=>absurd (h.uniq H.kd) zd⟩,
  H.laid.upd Z fun e=>(zCd H.row H.ar.dsk.tab H.laid).2 e.symm,H.tb⟩
theorem zJC.array(H:zJC B w wb D L G nb q m sb rb E ov lv ra rk rc S oV wV):zKO B w wb D L G nb q.s.A q.R q.c m.l (pv sb) rb ra rk rc S oV wV:=by
 have u:=H.ar.dsk.arc.n;have J:=H.ar.dsk.arc.right;rw[H.eD,H.eL,H.eG]at u J;exact⟨H.wB,H.row,H.kd,H.ar.dsk.arc.arr,J,u,H.ar.dsk.arc.wait,fun c hc=>H.eB▸H.ar.lo.own c (by rw[H.eD,H.eL,H.eG,<-u];exact hc),H.eB▸H.ar.qk,H.rf,H.laid,H.ar.dsk.tab,H.tb,H.eB▸H.ar.lo.err⟩
end
section
variable {B:Nat} {w w':zw} {wb D L G nb:Nat} {A:Arr} {R:List RO} {c:Nat} {l:zAK} {sv:Value} {rb:Nat} {ra:Option Addr} {rk rc:Nat} {S:Nat->Il} {oV wV:Value}
theorem zKO.later(H:zKO B w wb D L G nb A R c l sv rb ra rk rc S oV wV)(u:Below w w w'):zKO B w' wb D L G nb A R c l sv rb ra rk rc S oV wV:=
 ⟨H.wB,H.row.later u,H.kd.later u,H.arr.later u,H.right,H.n,H.wait,H.lo,yC H.bs u.size,H.rf.later u,H.laid.later u,zAo H.tab u,H.tb,H.te⟩
theorem zKO.qb(H:zKO B w wb D L G nb A R c l sv rb ra rk rc S oV wV){t:Nat}(u:t≠87∧t≠91∧t≠40∧t≠4):∀c,l.own A.n c->¬Kd w c t:=fun c hc hk=>by
 rcases H.arr.kind hc hk with e | e | e | e
 ·exact u.1 e
 ·exact u.2.1 e
 ·exact u.2.2.1 e
 ·exact u.2.2.2 e
theorem zKO.ju(H:zKO B w wb D L G nb A R c l sv rb ra rk rc S oV wV){O:Arr}(J:Upd (l.own A.n) w w')(hA:zT w' l O)(Z:O.n=A.n)(hw:O.wait<0):zKO B w' wb D L G nb O R c l sv rb ra rk rc S oV wV:=
 ⟨H.wB,H.row.upd J fun _ u=>H.qb zd _ u H.kd,H.kd.upd J fun u=>H.qb zd _ u H.kd,hA,H.right,Z.trans H.n,hw,by rw[Z];exact H.lo,yC H.bs J.size,
  H.rf.upd J fun g V=>⟨H.qb zd g V,H.qb zd g V,H.qb zd g V⟩,H.laid.upd J fun u=>by have:=H.lo _ u;have:=H.te;omega,H.tab.upd J fun u=>by have:=H.lo _ u;have:=H.tb;omega,H.tb,H.te⟩
theorem zKO.jj(H:zKO B w wb D L G nb A R c l sv rb ra rk rc S oV wV)(J:Upd (· =wb) w w')(a0:zO w w'){A2:Arr}{l2:zAK}{sv2:Value}{c2 rb2:Nat}{R2:List RO}{V:Option Addr}{O u:Nat}{S2:Nat->Il}{oV2 wV2:Value}
  (hr:Row w' wb 0 10 (zEa D L G (pv l2.ab) sv2 (pv rb2) nb oV2 wV2 c2))(hA:zT w l2 A2)(hn:A2.n=A.n)(hw:A2.wait<0)(Z:∀c,l2.own A2.n c->B≤c)(hf:RfA w rb2 R2 V O u S2):zKO B w' wb D L G nb A2 R2 c2 l2 sv2 rb2 V O u S2 oV2 wV2:=
 ⟨H.wB,hr,a0 _ _ H.kd,hA.kept J (fun b hb _ e=>by
   obtain rfl:b=wb:=e;rcases hA.kind hb H.kd with e | e | e | e<;>exact absurd e zd),H.right,hn.trans H.n,hw,Z,yC H.bs J.size,
  hf.upd J fun g hg=>by obtain rfl:g=wb:=hg;exact⟨fun h=>absurd (h.uniq H.kd) zd,fun h=>absurd (h.uniq H.kd) zd,fun h=>absurd (h.uniq H.kd) zd⟩,
  H.laid.upd J fun e=>(zCd H.row H.tab H.laid).2 e.symm,H.tab.upd J fun e=>(zCd H.row H.tab H.laid).1 e.symm,H.tb,H.te⟩
end
def zUw(B:Nat)(w:zw)(wb D L G nb:Nat)(r:Option Nat × Ast)(R:List RO)(c:Nat)(e:Ending)(w':zw):Prop:=
 Trn B w w'∧match r.1 with
 | none=>e=.returned (.bool true)∧WlX B w' wb D L G nb ⟨r.2,R,c⟩
 | some _=>e=.returned (.bool false)∧WaX B w' wb D L G nb r.2.A R c
theorem zQE(w:zw)(wb:Nat)(l:zAK)(D L G:Nat)(sv rv ov wv:Value)(n c:Int)(hW:Row w wb 0 10 (zEa D L G (.pointer (zp (l.ab))) sv rv n ov wv c))(X:Nat->Prop)(R:World->World->Prop)(hX:¬X wb)(k:Nat)(hk:k≠0)(hl:zCt w)(a2:¬X 0)
  (hO:∀V,Below w w V->Calls prog 11 #[l.ab,PV D L G,.agg #[I c]] V fun e V'=>e=.returned (.tuple #[.pointer none,zAk (some k)])∧Upd X V V'∧R V V'):
  Calls prog 15 #[wb] w fun e w'=>e=.returned (.bool false)∧∃V0 V,w.heap.size≤V0.heap.size∧R V0 V∧Upd (· =wb) V w'∧Upd X w V∧Row w' wb 0 10 (zEa D L G (.pointer (zp (l.ab))) (.pointer none) rv n ov wv c)∧zO V w':=by
 have HO:=zz hO;have HX:=zz hX;have a1:=zz hW;have HL:=zz hl;have a7:=zz a2;have b0:((k:Int)==0)=false:=(by simpa using hk);clear hO hX hW hl a2 hk;go_enter func15,ntmps15;go_upto_region 1 with fail;obtain⟨κ,b2,wB,a4,a9⟩:=zK w;obtain⟨κ2,a8,Z,a5,a0⟩:=zH X w;have b1:=zz a4;have J:=zz (fun n=>a1.o.upd (a5 n) (fun _=>HX.o));have y0:∀n,(Z n).cell? wb=some (I D):=fun n=>(J.o n).cell 0 zo;have y1:∀n,(Z n).cell? (wb,1)=some (I L):=fun n=>(J.o n).cell 1 zo;have y2:∀n,(Z n).cell? (wb,2)=some (I G):=fun n=>(J.o n).cell 2 zo;have y3:∀n,(Z n).cell? (wb,3)=some (.pointer (zp (l.ab))):=fun n=>(J.o n).cell 3 zo;have y9:∀n,(Z n).cell? (wb,9)=some (I c):=fun n=>(J.o n).cell 9 zo;clear a4 a5;refine zAS 13 (fun V=>∃n,V=Z n) zP zk rfl (fun c a d v w h=>by cases d<;>exact h) (a0.o _ (Upd.of_below (zA w) |>.mono fun _ _ h=>h.elim)) ?_;simp only[yy,yE,yu,yz];change wpQuiet _ _ _ _ (_::_::_::_::_::_::_::_::_::_::_::_::_::[]) _;(repeat(go_big_quiet_step (fail)));refine wpQuiet_nil ?_;clear y0 y1 y2 y3 y9;refine zS (i:=13) rfl rfl ?_;go_wp2_with fail;refine(HO.o _ (zA w)).mono ?_;rintro e w2 ⟨rfl,hu,hR⟩;have HU:=zz ((Upd.of_below (zA w) |>.mono fun _ _ h=>h.elim).trans hu (fun _ h _=>h):Upd X w w2);have HR:=zz hR;have a6:=zz (HL.o.upd HU.o a7.o);clear hu hR;simp only[zAk];go_wp2_with fail;refine⟨a0.o _ HU.o,?_⟩;unfold zFB;change wpQuiet _ _ _ _ (_::_::_::_::_::[]) _;(repeat(go_big_quiet_step (fail)));refine wpQuiet_nil ?_;go_upto_region 3 with(go_at_call 12;refine(zDY k w2 a6.o).mono ?_;rintro e w3 ⟨rfl,O⟩);have u:=zz ((a1.o.upd HU.o (fun _=>HX.o)).later O);have s4:w3.cell? (wb,4)=some sv:=u.o.cell 4 zo;have f4:w3.frozen? (wb,4)=false:=u.o.free 4 zo;have a3:=zz O;clear O;go_wp2_with fail;go_ret;refine⟨rfl,w.drew,w2,yb _,HR.o,(Upd.of_below a3.o).mono (fun _ _ h=>h.elim) |>.trans ((Upd.refl _ w3).qe 4 _) (fun _ h _=>h),HU.o,?_,(zO.below a3.o).set _ _⟩;have h:=u.o.set (i:=4) zo (.pointer none);rw[yc]at h;refine h.congr fun i hi=>?_
 match i,hi with | 0,_ | 1,_ | 2,_ | 3,_ | 4,_ | 5,_ | 6,_ | 7,_ | 8,_ | 9,_=>rfl
theorem zMY{D L G:Nat}{h:Hd}{t:zP4}{k:Nat}(e:(opnTo D L G h t).1=some k):k≠0:=by
 unfold opnTo at e;split at e<;>split at e<;>simp at e<;>omega
theorem zHE{D L G:Nat}{k:Nat}(e:(openR D L G s).1=some k):k≠0:=by
 unfold openR at e;split at e;{generalize zIT D L G (hdTo s.A (D+L+G)).latest (hdTo s.A (D+L+G)).A=f at e;obtain⟨J,V⟩:=f;(cases J with |none=>(simp at e;omega)|some p=>(obtain⟨b,O⟩:=p;simp only at e;(cases u:zIc b with |none=>(rw[u]at e;simp at e;omega)|some l=>(rw[u]at e;simp only at e;split at e<;>simp at e;omega))))};{exact zMY e}
theorem zOL(B:Nat)(w:zw)(wb D L G nb c:Nat)(A:Arr)(R:List RO)(hW:WaX B w wb D L G nb A R c)(hc:c≤64)(hm:8≤A.m)(a5:A.m≤1000):
  Calls prog 15 #[pv wb] w (zUw B w wb D L G nb (openR D L G (s0 A)) R c):=by
 obtain⟨l,sv,rb,ra,rk,rc,S,oV,wV,H⟩:=hW;have a2:¬l.own A.n wb:=fun h=>H.qb zd _ h H.kd;have a3:=zCd H.row H.tab H.laid;have a8:¬l.own A.n 0:=fun h=>(by have:=H.lo _ h;have:=H.te;omega);have b1:¬l.own A.n 2:=fun h=>(by have:=H.lo _ h;have:=H.tb;omega);have a6:=zR6 D L G (s0 A);(cases hr:(openR D L G (s0 A)).1 with |none=>(refine(zJr w wb l D L G sv (pv rb) oV wV nb c H.row (l.own A.n) (fun V sb V'=>∃(m:Loc) (E:List Nat) (ov lv:Value),m.base=B∧m.l=l∧m.D=D∧m.L=L∧m.G=G∧ArE V' m (openR D L G (s0 A)).2 E ov lv∧Row V' sb 0 1 (fun _=>pv m.ar)∧Kd V' sb 99∧V.heap.size≤sb) a2 fun V hb=>?_).mono ?_;{refine(zEX V l A D L G c (H.arr.later hb) H.wait H.right hc H.n hm a5 B (zAo H.tab hb) H.lo (yC H.bs hb.size) H.tb H.te).mono ?_;rintro e V' ⟨hu,h⟩;rw[hr]at h;obtain⟨sb,m,E,ov,lv,h1,h2,h3,h4,h5,rfl,hA,_,a4,a0,a7⟩:=h;exact⟨sb,rfl,hu,m,E,ov,lv,h1,h2,h3,h4,h5,hA,a4,a0,a7⟩};{rintro e w' ⟨rfl,sb,V0,V,a9,⟨m,E,ov,lv,h1,h2,h3,h4,h5,hA,a4,a0,a7⟩,O,J,Z,a1⟩;have u:=H.kd.upd J a2;have b0:=H.kd.lt;refine⟨(Trn.arr H.arr J H.lo).trans (Trn.one O u (by simp[okK]) H.wB),?_⟩;rw[hr];refine⟨rfl,m,sb,rb,E,ov,lv,ra,rk,rc,S,oV,wV,h1,H.wB,h3,h4,h5,by rw[h2];exact Z,a1 _ _ u,a4.upd O fun _ e=>absurd e (a0.ne u zd),a1 _ _ a0,hA.other O u a3.1 (.inl rfl),?_,(H.laid.upd J a8).upd O fun e=>a3.2 e.symm,H.tb⟩;refine(H.rf.upd J fun g hg=>⟨H.qb zd g hg,H.qb zd g hg,H.qb zd g hg⟩).upd O fun g hg=>?_;obtain rfl:g=wb:=hg;exact⟨fun h=>absurd (h.uniq u) zd,fun h=>absurd (h.uniq u) zd,fun h=>absurd (h.uniq u) zd⟩})|some k=>(refine(zQE w wb l D L G sv (pv rb) oV wV nb c H.row (l.own A.n) (fun V V'=>zT V' l (openR D L G (s0 A)).2.A) a2 k (zHE hr) H.laid a8 fun V hb=>?_).mono ?_;{refine(zEX V l A D L G c (H.arr.later hb) H.wait H.right hc H.n hm a5 B (zAo H.tab hb) H.lo (yC H.bs hb.size) H.tb H.te).mono ?_;rintro e V' ⟨hu,h⟩;rw[hr]at h;obtain⟨rfl,hA⟩:=h;exact⟨rfl,hu,hA⟩};{rintro e w' ⟨rfl,V0,V,a9,hA,O,J,Z,a1⟩;have u:=H.kd.upd J a2;refine⟨(Trn.arr H.arr J H.lo).trans (Trn.one O u (by simp[okK]) H.wB),?_⟩;rw[hr];have H2:=H.ju J hA a6.1 (by rw[a6.2.1];exact H.wait);exact⟨rfl,l,.pointer none,rb,ra,rk,rc,S,oV,wV,H2.jj O a1 Z hA rfl H2.wait H2.lo H2.rf⟩}))
end Go.Proofs.YtonfdlhikinldaaGreatDoor
