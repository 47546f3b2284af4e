import Derived.Test.YtonfdlhikinldaaGreatDoorZb
set_option maxRecDepth 100000
set_option linter.all false
set_option linter.unusedVariables false
set_option maxHeartbeats 16000000
namespace Gf
variable {f g:UInt8->UInt8}{a:UInt8}
def xt(a:Nat):Nat:=(2*a)^^^((a / 128)*0x11d)
def bt(b i:Nat):Nat:=(b >>> i) % 2
def mulN(a b:Nat):Nat:=
 let V:=xt a
 let J:=xt V
 let O:=xt J
 let Z:=xt O
 let a5:=xt Z
 let u:=xt a5
 let a7:=xt u
 (bt b 0*a)^^^(bt b 1*V)^^^(bt b 2*J)^^^(bt b 3*O)^^^(bt b 4*Z)^^^(bt b 5*a5)^^^(bt b 6*u)^^^(bt b 7*a7)
theorem zNz(b i:Nat):bt b i=0∨bt b i=1:=by unfold bt;omega
theorem zTN(a b i:Nat):bt (a^^^b) i=bt a i^^^bt b i:=by
 unfold bt;rw[Nat.shiftRight_xor_distrib];generalize a >>> i=x;generalize b >>> i=y;have u:=fun z=>(Nat.and_one_is_mod z).symm;rw[u,u,u,Nat.and_xor_distrib_right]
theorem zMK(a b i c:Nat):bt (a^^^b) i*c=(bt a i*c)^^^(bt b i*c):=by
 rw[zTN];rcases zNz a i with h | h<;>rcases zNz b i with h' | h'<;>rw[h,h']<;>simp
theorem zML(a b c i:Nat):bt c i*(a^^^b)=(bt c i*a)^^^(bt c i*b):=by
 rcases zNz c i with h | h<;>rw[h]<;>simp
theorem zFq(a b:Nat)(ha:a<256)(hb:b<256):xt (a^^^b)=xt a^^^xt b:=by
 have u:∀z,2*z=z <<< 1:=fun z=>(by rw[Nat.shiftLeft_eq];omega);have V:∀z,z / 128=z >>> 7:=fun z=>(by rw[Nat.shiftRight_eq_div_pow]);have hx:a^^^b<2^8:=Nat.xor_lt_two_pow (by omega) (by omega);have O:a / 128=0∨a / 128=1:=(by omega);have J:b / 128=0∨b / 128=1:=(by omega);have Z:2*(a^^^b)=(2*a)^^^(2*b):=(by rw[u,u,u,Nat.shiftLeft_xor_distrib]);have e2:(a^^^b) / 128=(a / 128)^^^(b / 128):=(by rw[V,V,V,Nat.shiftRight_xor_distrib]);unfold xt;rw[Z,e2];rcases O with h | h<;>rcases J with h' | h'<;>rw[h,h']<;>simp;{rw[Nat.xor_assoc]};{rw[Nat.xor_assoc,Nat.xor_assoc];congr 1;rw[Nat.xor_comm]};{rw[show∀p q r:Nat,p^^^r^^^(q^^^r)=p^^^q^^^(r^^^r)from fun p q r=>by ac_rfl];simp}
theorem xt_lt(a:Nat)(u:a<256):xt a<256:=by
 have:(∀a<256,(decide (xt a<256))=true):=(by decide+kernel);simpa using this a u
theorem zTO{a b:Nat}(J:a<256)(u:b<256):a^^^b<256:=Nat.xor_lt_two_pow (n:=8) J u
theorem zN0(b i c:Nat)(hc:c<256):bt b i*c<256:=by
 rcases zNz b i with h | h<;>rw[h]<;>omega
theorem zRt(a b:Nat)(O:a<256):mulN a b<256:=by
 unfold mulN;have u:=xt_lt a O;have J:=xt_lt _ u;have h3:=xt_lt _ J;have Z:=xt_lt _ h3;have h5:=xt_lt _ Z;have V:=xt_lt _ h5;have h7:=xt_lt _ V;simp only[];(repeat' apply zTO);(all_goals (apply zN0;assumption))
theorem zGb(a b c:Nat):mulN a (b^^^c)=mulN a b^^^mulN a c:=by
 unfold mulN;simp only[zMK];ac_rfl
theorem zHu(a b c:Nat)(O:a<256)(hb:b<256):mulN (a^^^b) c=mulN a c^^^mulN b c:=by
 unfold mulN;have u:=xt_lt a O;have J:=xt_lt _ u;have h3:=xt_lt _ J;have V:=xt_lt _ h3;have h5:=xt_lt _ V;have h6:=xt_lt _ h5;have g1:=xt_lt b hb;have g2:=xt_lt _ g1;have g3:=xt_lt _ g2;have Z:=xt_lt _ g3;have g5:=xt_lt _ Z;have g6:=xt_lt _ g5;simp only[zFq _ _ O hb,zFq _ _ u g1,zFq _ _ J g2,zFq _ _ h3 g3,zFq _ _ V Z,zFq _ _ h5 g5,zFq _ _ h6 g6,zML];ac_rfl
def mul(a b:UInt8):UInt8:=UInt8.ofNat (mulN a.toNat b.toNat)
theorem toNat_mul(a b:UInt8):(mul a b).toNat=mulN a.toNat b.toNat:=by
 unfold mul;rw[UInt8.toNat_ofNat'];exact Nat.mod_eq_of_lt (zRt _ _ a.toNat_lt)
theorem zCk(a b c:UInt8):mul a (b^^^c)=mul a b^^^mul a c:=by
 apply UInt8.toNat.inj;rw[toNat_mul,UInt8.toNat_xor,UInt8.toNat_xor,toNat_mul,toNat_mul,zGb]
theorem zDG(a b c:UInt8):mul (a^^^b) c=mul a c^^^mul b c:=by
 apply UInt8.toNat.inj;rw[toNat_mul,UInt8.toNat_xor,UInt8.toNat_xor,toNat_mul,toNat_mul,zHu _ _ _ a.toNat_lt b.toNat_lt]
def zJu(f:UInt8->UInt8):Prop:=∀a b,f (a^^^b)=f a^^^f b
theorem zJu.zero{f:UInt8->UInt8}(h:zJu f):f 0=0:=by
 have:=h 0 0;simpa using this
def pw(i:Nat):UInt8:=UInt8.ofNat (2^i)
def part(a:Nat)(i:Nat):UInt8:=UInt8.ofNat (bt a i*2^i)
theorem zN1:∀a<256,(UInt8.ofNat a==(part a 0^^^part a 1^^^part a 2^^^part a 3^^^part a 4^^^part a 5^^^part a 6^^^part a 7))=true:=by decide+kernel
theorem parts(a:UInt8):a=part a.toNat 0^^^part a.toNat 1^^^part a.toNat 2^^^part a.toNat 3^^^part a.toNat 4^^^part a.toNat 5^^^part a.toNat 6^^^part a.toNat 7:=by
 have:=zN1 a.toNat a.toNat_lt;simpa using this
theorem zJu.part(u:zJu f)(J:zJu g){i:Nat}(h:f (pw i)=g (pw i))(a:Nat):f (Gf.part a i)=g (Gf.part a i):=by
 unfold Gf.part;rcases zNz a i with e | e<;>rw[e];{simp[u.zero,J.zero]};{simpa[pw]using h}
theorem zJu.ext(u:zJu f)(J:zJu g)(h:∀i<8,f (pw i)=g (pw i))(a:UInt8):f a=g a:=by
 rw[parts a];simp only[u _ _,J _ _];rw[u.part J (h 0 (by omega)),u.part J (h 1 (by omega)),u.part J (h 2 (by omega)),u.part J (h 3 (by omega)),
  u.part J (h 4 (by omega)),u.part J (h 5 (by omega)),u.part J (h 6 (by omega)),u.part J (h 7 (by omega))]
theorem zDH(c:UInt8):zJu (fun a=>mul a c):=fun a b=>zDG a b c
theorem zDU(c:UInt8):zJu (fun a=>mul c a):=fun a b=>zCk c a b
theorem zRu:∀i<8,∀j<8,(mul (pw i) (pw j)==mul (pw j) (pw i))=true:=by decide+kernel
theorem zU8(a b:UInt8):mul a b=mul b a:=by
 refine zJu.ext (zDH b) (zDU b) (fun i u=>?_) a;refine zJu.ext (zDU (pw i)) (zDH (pw i)) (fun j J=>?_) b;simpa using zRu i u j J
theorem zPy:∀i<8,∀j<8,∀k<8,(mul (mul (pw i) (pw j)) (pw k)==mul (pw i) (mul (pw j) (pw k)))=true:=by decide+kernel
theorem zAg(a b c:UInt8):mul (mul a b) c=mul a (mul b c):=by
 refine zJu.ext (f:=fun a=>mul (mul a b) c) (g:=fun a=>mul a (mul b c)) (fun x y=>by simp only[zDG]) (zDH _) (fun i u=>?_) a;refine zJu.ext (f:=fun b=>mul (mul (pw i) b) c) (g:=fun b=>mul (pw i) (mul b c)) (fun x y=>by simp only[zCk,zDG]) (fun x y=>by simp only[zCk,zDG]) (fun j J=>?_) b;refine zJu.ext (f:=fun c=>mul (mul (pw i) (pw j)) c) (g:=fun c=>mul (pw i) (mul (pw j) c)) (zDU _) (fun x y=>by simp only[zCk]) (fun k hk=>?_) c;simpa using zPy i u j J k hk
theorem mul_zero(a:UInt8):mul a 0=0:=(zDU a).zero
theorem zero_mul(a:UInt8):mul 0 a=0:=(zDH a).zero
theorem mul_one(a:UInt8):mul a 1=a:=by
 refine zJu.ext (f:=fun a=>mul a 1) (g:=fun a=>a) (zDH 1) (fun _ _=>rfl) (fun i u=>?_) a;have:∀i<8,(mul (pw i) 1==pw i)=true:=(by decide+kernel);simpa using this i u
theorem one_mul(a:UInt8):mul 1 a=a:=by rw[zU8,mul_one]
def inv(a:UInt8):UInt8:=
 let V:=mul a a
 let p1:=mul 1 V
 let J:=mul V V
 let p2:=mul p1 J
 let O:=mul J J
 let p3:=mul p2 O
 let Z:=mul O O
 let p4:=mul p3 Z
 let a5:=mul Z Z
 let p5:=mul p4 a5
 let u:=mul a5 a5
 let p6:=mul p5 u
 let a7:=mul u u
 mul p6 a7
theorem zRv:∀a<256,(a==0||mul (UInt8.ofNat a) (inv (UInt8.ofNat a))==1)=true:=by decide+kernel
theorem zEj(h:a≠0):mul a (inv a)=1:=by
 have:=zRv a.toNat a.toNat_lt;simp only[UInt8.ofNat_toNat,Bool.or_eq_true,beq_iff_eq]at this;rcases this with h0 | h1;{exact absurd (UInt8.toNat.inj (by simpa using h0)) h};{exact h1}
theorem zHv(h:a≠0):mul (inv a) a=1:=by rw[zU8,zEj h]
theorem zB0{a b:UInt8}(h:mul a b=0):a=0∨b=0:=by
 by_cases u:a=0;{exact .inl u};{right;have:mul (inv a) (mul a b)=b:=(by rw[<-zAg,zHv u,one_mul]);rw[<-this,h,mul_zero]}
theorem inv_ne(h:a≠0):inv a≠0:=fun e=>by
 have:=zEj h;rw[e,mul_zero]at this;exact absurd this (by decide)
end Gf
namespace Lin
open Gf
variable {n:Nat}{c:Nat}{q:Nat->Bool}{w:Nat}{u:List Nat}{α:Type}
abbrev F:=UInt8
abbrev Vec:=Nat->F
theorem zLR(a:F):a^^^a=0:=by simp
theorem zFM(a b:F):a^^^(a^^^b)=b:=by rw[<-UInt8.xor_assoc];simp
inductive Sp (S:Vec->Prop):Vec->Prop
 | zero:Sp S (fun _=>0)
 | step {v r:Vec} (c:F) (u:S r) (hv:Sp S v):Sp S (fun j=>mul c (r j)^^^v j)
theorem Sp.row{S:Vec->Prop}{r:Vec}(h:S r):Sp S r:=by
 have:=Sp.step (1:F) h Sp.zero;simpa[one_mul]using this
theorem Sp.add{S:Vec->Prop}{u v:Vec}(J:Sp S u)(hv:Sp S v):Sp S (fun j=>u j^^^v j):=by
 (induction J with |zero=>(simpa using hv)|step c hr _ ih=>(have:=Sp.step c hr ih;refine cast (congrArg (Sp S) (funext fun j=>?_)) this;rw[UInt8.xor_assoc]))
theorem Sp.smul{S:Vec->Prop}{v:Vec}(c:F)(hv:Sp S v):Sp S (fun j=>mul c (v j)):=by
 (induction hv with |zero=>(simpa[mul_zero]using Sp.zero)|step d hr _ ih=>(have:=Sp.step (mul c d) hr ih;refine cast (congrArg (Sp S) (funext fun j=>?_)) this;rw[zCk,zAg]))
theorem Sp.mono{S T:Vec->Prop}(h:∀r,S r->Sp T r){v:Vec}(hv:Sp S v):Sp T v:=by
 (induction hv with |zero=>(exact .zero)|step c hr _ ih=>(exact Sp.add ((h _ hr).smul c) ih))
def zRF(v:Vec)(c:Nat):Prop:=(∀j<c,v j=0)∧v c≠0
theorem zRF.inj{v:Vec}{c d:Nat}(h:zRF v c)(h':zRF v d):c=d:=by
 rcases Nat.lt_trichotomy c d with h1 | h1 | h1;{exact absurd (h'.1 c h1) h.2};{exact h1};{exact absurd (h.1 d h1) h'.2}
def Led(S:Vec->Prop)(c:Nat):Prop:=∃v,Sp S v∧zRF v c
open Classical in
noncomputable def rk(S:Vec->Prop)(w:Nat):Nat:=((List.range w).filter fun c=>decide (Led S c)).length
theorem zOC(S:Vec->Prop)(w:Nat):rk S w≤w:=by
 unfold rk;have:=List.length_filter_le (fun c=>@decide (Led S c) (Classical.propDecidable _)) (List.range w);simpa using this
theorem zCL{p q:α->Bool}(h:∀a,p a=true->q a=true)(l:List α):(l.filter p).length≤(l.filter q).length:=by
 (induction l with |nil=>(simp)|cons a l ih=>(simp only[List.filter_cons];by_cases u:p a=true;{simp[u,h a u,ih]};{simp only[u];by_cases J:q a=true;{simp[J];omega};{simp[J];exact ih}}))
theorem zCx{p q:α->Bool}(h:∀a,p a=true->q a=true)(l:List α){a:α}(O:a∈l)(V:q a=true)(Z:p a=false):
  (l.filter p).length<(l.filter q).length:=by
 (induction l with |nil=>(simp at O)|cons b l ih=>(simp only[List.filter_cons];have hm:=zCL h l;rcases List.mem_cons.1 O with rfl | hin;{simp[Z,V];omega};{have:=ih hin;by_cases J:p b=true;{simp[J,h b J];exact this};{simp only[J];by_cases u:q b=true;{simp[u];omega};{simp[u];exact this}}}))
theorem Led.mono{S T:Vec->Prop}(h:∀r,S r->Sp T r)(hc:Led S c):Led T c:=
 let⟨v,hv,hl⟩:=hc;⟨v,hv.mono h,hl⟩
theorem zF3{S T:Vec->Prop}(h:∀r,S r->Sp T r)(w:Nat):rk S w≤rk T w:=by
 unfold rk;exact zCL (fun c hc=>by simpa using Led.mono h (by simpa using hc)) _
theorem zOD{S T:Vec->Prop}(h:∀r,S r->Sp T r)(h':∀r,T r->Sp S r)(w:Nat):rk S w=rk T w:=
 Nat.le_antisymm (zF3 h w) (zF3 h' w)
theorem zH4{S T:Vec->Prop}(h:∀r,S r->Sp T r)(w:Nat)(hl:∀c<w,Led T c->Led S c):
  ∀(n:Nat) (v:Vec),Sp T v->(∀j,j+n<w->v j=0)->∃u,Sp S u∧∀j<w,u j=v j:=by
 intro n
 induction n with
 | zero=>intro v _ hv;exact⟨fun _=>0,.zero,fun j O=>(hv j (by omega)).symm⟩
 | succ n ih=>
  intro v hv hz;by_cases hw:w≤n;{exact ih v hv (fun j O=>by omega)}
  ·have Z:w - (n+1)<w:=(by omega);by_cases h0:v (w - (n+1))=0;{refine ih v hv (fun j O=>?_);by_cases J:j+(n+1)<w;{exact hz j J};{have:j=w - (n+1):=(by omega);rw[this,h0]}}
   ·obtain⟨u,hu,V⟩:=hl _ Z ⟨v,hv,fun j O=>hz j (by omega),h0⟩;have hc:mul (mul (v (w - (n+1))) (inv (u (w - (n+1))))) (u (w - (n+1)))=v (w - (n+1)):=(by rw[zAg,zHv V.2,mul_one])
    generalize hk:mul (v (w - (n+1))) (inv (u (w - (n+1))))=k at hc;obtain⟨x,hx,a0⟩:=ih (fun j=>mul k (u j)^^^v j) ((hu.mono h).smul k |>.add hv) (fun j O=>by
     by_cases J:j+(n+1)<w
     ·show mul k (u j)^^^v j=0;rw[V.1 j (by omega),hz j J,mul_zero];rfl
     ·have:j=w - (n+1):=(by omega);subst this;show mul k _^^^_=0;rw[hc];simp)
    refine⟨fun j=>mul k (u j)^^^x j,(hu.smul k).add hx,fun j O=>?_⟩;show mul k (u j)^^^x j=v j;rw[a0 j O,zFM]
theorem zDy{p q:α->Bool}(h:∀a,p a=true->q a=true)(l:List α)(u:(l.filter p).length=(l.filter q).length){a:α}(O:a∈l)(V:q a=true):p a=true:=by
 by_cases J:p a=true;{exact J};{have:=zCx h l O V (by simpa using J);omega}
theorem zHD{S T:Vec->Prop}(h:∀r,S r->Sp T r)(w:Nat)(J:rk S w=rk T w){v:Vec}(hv:Sp T v):∃u,Sp S u∧∀j<w,u j=v j:=by
 refine zH4 h w (fun c hc O=>?_) w v hv (fun j V=>by omega);unfold rk at J;have:=@zDy Nat (fun c=>@decide (Led S c) (Classical.propDecidable _)) (fun c=>@decide (Led T c) (Classical.propDecidable _))
  (fun c hc=>by simpa using Led.mono h (by simpa using hc)) (List.range w) J c (by simpa using hc) (by simpa using O)
 simpa using this
abbrev Mat:=Nat->Nat->F
def zEJ(k n:Nat)(M:Mat):Vec->Prop:=fun r=>∃i,k≤i∧i<n∧r=M i
abbrev Rows(n:Nat)(M:Mat):Vec->Prop:=zEJ 0 n M
theorem Rows.mk{M:Mat}{i:Nat}(h:i<n):Rows n M (M i):=⟨i,Nat.zero_le _,h,rfl⟩
theorem zKA{k n:Nat}{M:Mat}{v:Vec}(h:Sp (zEJ k n M) v):
  ∃(x:F) (u:Vec),Sp (zEJ (k+1) n M) u∧v=fun j=>mul x (M k j)^^^u j:=by
 (induction h with |zero=>(exact⟨0,fun _=>0,.zero,by funext j;simp[zero_mul]⟩)|step c hr _ ih=>(obtain⟨x,u,O,rfl⟩:=ih;obtain⟨i,V,J,rfl⟩:=hr;by_cases hk:i=k;{subst hk;refine⟨c^^^x,u,O,funext fun j=>?_⟩;show mul c (M i j)^^^(mul x (M i j)^^^u j)=mul (c^^^x) (M i j)^^^u j;rw[zDG,UInt8.xor_assoc]};{refine⟨x,_,Sp.step c ⟨i,by omega,J,rfl⟩ O,funext fun j=>?_⟩;show mul c (M i j)^^^(mul x (M k j)^^^u j)=mul x (M k j)^^^(mul c (M i j)^^^u j);ac_rfl}))
structure Ech (n:Nat) (M:Mat) (c:Nat) (u:List Nat):Prop where
 le:u.length≤n
 lead:∀i (h:i<u.length),zRF (M i) u[i]∧u[i]<c
 mono:u.Pairwise (· <·)
 rest:∀i,u.length≤i->i<n->∀j<c,M i j=0
theorem Ech.start(n:Nat)(M:Mat):Ech n M 0 []:=
 ⟨Nat.zero_le _,fun i h=>absurd h (by simp),List.Pairwise.nil,fun i _ _ j u=>absurd u (by omega)⟩
theorem zEz{k n:Nat}{M:Mat}(h:∀i,k≤i->i<n->∀j<c,M i j=0){v:Vec}(hv:Sp (zEJ k n M) v):∀j<c,v j=0:=by
 (induction hv with |zero=>(intro j _;rfl)|step x hr _ ih=>(intro j J;obtain⟨i,O,u,rfl⟩:=hr;show mul x (M i j)^^^_=0;rw[h i O u j J,ih j J,mul_zero];rfl))
theorem Ech.leads{M:Mat}{J:List Nat}(h:Ech n M c J):
  ∀(m k:Nat),k+m=J.length->∀v,Sp (zEJ k n M) v->(∀j<c,v j=0)∨∃i,∃hi:i<J.length,k≤i∧zRF v J[i]:=by
 intro m;(induction m with |zero=>(intro k hk v hv;exact .inl (zEz (fun i hi O j hj=>h.rest i (by omega) O j hj) hv))|succ m ih=>(intro k hk v hv;obtain⟨x,u,hu,rfl⟩:=zKA hv;have V:k<J.length:=(by omega);obtain⟨hl,hc⟩:=h.lead k V;have hz:∀j≤J[k],u j=0:=(by intro j hj;refine zEz (k:=k+1) (n:=n) (M:=M) (c:=J[k]+1) (fun i hi O j hj=>?_) hu j (by omega);by_cases Z:i<J.length;{have a1:=List.pairwise_iff_getElem.1 h.mono k i V Z (by omega);exact(h.lead i Z).1.1 j (by omega)};{exact h.rest i (by omega) O j (by omega)});by_cases hx:x=0;{subst hx;have e:(fun j=>mul 0 (M k j)^^^u j)=u:=(by funext j;simp[zero_mul]);rw[e];rcases ih (k+1) (by omega) u hu with h1 | ⟨i,hi,a2,a0⟩;{exact .inl h1};{exact .inr ⟨i,hi,by omega,a0⟩}};{right;refine⟨k,V,Nat.le_refl _,fun j hj=>?_,fun e=>?_⟩;{show mul x (M k j)^^^u j=0;rw[hl.1 j hj,hz j (by omega),mul_zero];rfl};{have e':mul x (M k J[k])^^^u J[k]=0:=e;rw[hz _ (Nat.le_refl _)]at e';rcases zB0 (show mul x (M k J[k])=0 by simpa using e')with h0 | h0;{exact hx h0};{exact hl.2 h0}}}))
theorem Ech.lead_lt{M:Mat}(h:Ech n M c u){v:Vec}(hv:Sp (Rows n M) v):(∀j<c,v j=0)∨∃d<c,zRF v d:=by
 rcases h.leads u.length 0 (by omega) v hv with h1 | ⟨i,O,_,J⟩;{exact .inl h1};{exact .inr ⟨_,(h.lead i O).2,J⟩}
theorem Ech.none{M:Mat}(h:Ech n M c u)(hz:∀i,u.length≤i->i<n->M i c=0):
  Ech n M (c+1) u∧¬Led (Rows n M) c:=by
 have h':Ech n M (c+1) u:=(by refine⟨h.le,fun i J=>⟨(h.lead i J).1,by have:=(h.lead i J).2;omega⟩,h.mono,fun i J O j hj=>?_⟩;rcases Nat.lt_succ_iff_lt_or_eq.1 hj with h1 | h1;{exact h.rest i J O j h1};{rw[h1];exact hz i J O});refine⟨h',fun⟨v,hv,Z⟩=>?_⟩;rcases h'.leads u.length 0 (by omega) v hv with h1 | ⟨i,J,_,V⟩;{exact Z.2 (h1 c (by omega))};{have:=(h.lead i J).2;have:=Z.inj V;omega}
theorem Ech.some{M Z:Mat}(h:Ech n M c u)(hp:u.length<n)
  (V:∀i<u.length,∀j<c,Z i j=M i j)(hl:zRF (Z u.length) c)
  (O:∀i,u.length<i->i<n->∀j≤c,Z i j=0):Ech n Z (c+1) (u++[c]):=by
 have a2:(u++[c]).length=u.length+1:=(by simp);refine⟨by omega,fun i hi=>?_,?_,fun i hi a1 j hj=>O i (by omega) a1 j (by omega)⟩;{by_cases J:i<u.length;{have he:(u++[c])[i]=u[i]:=List.getElem_append_left J;rw[he];obtain⟨⟨h1,h2⟩,h3⟩:=h.lead i J;refine⟨⟨fun j hj=>by rw[V i J j (by omega)];exact h1 j hj,by rw[V i J _ h3];exact h2⟩,by omega⟩};{have a0:i=u.length:=(by omega);subst a0;have he:(u++[c])[u.length]=c:=(by simp);rw[he];exact⟨hl,by omega⟩}};{rw[List.pairwise_append];refine⟨h.mono,List.pairwise_singleton _ _,fun a ha b hb=>?_⟩;obtain⟨i,hi,rfl⟩:=List.getElem_of_mem ha;rw[List.mem_singleton.1 hb];exact(h.lead i hi).2}
open Classical in
theorem zNj(S:Vec->Prop)(w:Nat):rk S (w+1)=rk S w+if Led S w then 1 else 0:=by
 unfold rk;rw[List.range_succ,List.filter_append];by_cases h:Led S w<;>simp[h]
theorem zG1{S:Vec->Prop}(h:Led S w):rk S (w+1)=rk S w+1:=by rw[zNj,if_pos h]
theorem zKB{S:Vec->Prop}(h:¬Led S w):rk S (w+1)=rk S w:=by rw[zNj,if_neg h];omega
theorem zRn(S:Vec->Prop):rk S 0=0:=by simp[rk]
def zG2(n:Nat)(M N:Mat):Prop:=(∀i<n,Sp (Rows n N) (M i))∧(∀i<n,Sp (Rows n M) (N i))
theorem zG2.refl(n:Nat)(M:Mat):zG2 n M M:=⟨fun _ h=>.row (Rows.mk h),fun _ h=>.row (Rows.mk h)⟩
theorem zG2.fwd{M N:Mat}(h:zG2 n M N){v:Vec}(hv:Sp (Rows n M) v):Sp (Rows n N) v:=
 hv.mono fun _ ⟨i,_,hi,e⟩=>e▸h.1 i hi
theorem zG2.bwd{M N:Mat}(h:zG2 n M N){v:Vec}(hv:Sp (Rows n N) v):Sp (Rows n M) v:=
 hv.mono fun _ ⟨i,_,hi,e⟩=>e▸h.2 i hi
theorem zG2.trans{M N K:Mat}(h:zG2 n M N)(h':zG2 n N K):zG2 n M K:=
 ⟨fun i u=>h'.fwd (h.1 i u),fun i u=>h.bwd (h'.2 i u)⟩
theorem zG2.led{M N:Mat}(h:zG2 n M N)(c:Nat):Led (Rows n M) c↔Led (Rows n N) c:=
 ⟨fun⟨v,hv,u⟩=>⟨v,h.fwd hv,u⟩,fun⟨v,hv,u⟩=>⟨v,h.bwd hv,u⟩⟩
def zFj(M:Mat)(i p:Nat):Mat:=fun r=>if r=i then M p else if r=p then M i else M r
def zDc(M:Mat)(p:Nat)(c:F):Mat:=fun r=>if r=p then fun j=>mul c (M p j)else M r
def elim(M:Mat)(n p:Nat)(k:Nat->F):Mat:=fun r=>if r≠p∧r<n then fun j=>M r j^^^mul (k r) (M p j)else M r
theorem zNk(M:Mat){i p:Nat}(Z:i<n)(V:p<n):zG2 n M (zFj M i p):=by
 constructor;{intro r J;by_cases O:r=i;{subst O;refine .row ⟨p,Nat.zero_le _,V,?_⟩;unfold zFj;by_cases u:p=r;{simp[u]};{simp[u]}};{by_cases u:r=p;{subst u;refine .row ⟨i,Nat.zero_le _,Z,?_⟩;simp[zFj]};{refine .row ⟨r,Nat.zero_le _,J,?_⟩;simp[zFj,O,u]}}};{intro r J;unfold zFj;split;{exact .row (Rows.mk V)};{split;{exact .row (Rows.mk Z)};{exact .row (Rows.mk J)}}}
theorem zMC(M:Mat){p:Nat}{c:F}(O:p<n)(hc:c≠0):zG2 n M (zDc M p c):=by
 constructor;{intro r J;by_cases h:r=p;{subst h;have u:Sp (Rows n (zDc M r c)) (zDc M r c r):=.row (Rows.mk J);have:=u.smul (inv c);refine cast (congrArg (Sp _) (funext fun j=>?_)) this;show mul (inv c) (zDc M r c r j)=M r j;simp only[zDc,if_true];rw[<-zAg,zHv hc,one_mul]};{refine .row ⟨r,Nat.zero_le _,J,?_⟩;simp[zDc,h]}};{intro r J;unfold zDc;split;{exact(Sp.row (Rows.mk O)).smul c};{exact .row (Rows.mk J)}}
theorem zNl(M:Mat){p:Nat}(k:Nat->F)(Z:p<n):zG2 n M (elim M n p k):=by
 have O:elim M n p k p=M p:=(by simp[elim]);constructor;{intro r V;have u:Sp (Rows n (elim M n p k)) (elim M n p k r):=.row (Rows.mk V);have J:Sp (Rows n (elim M n p k)) (M p):=O▸.row (Rows.mk Z);by_cases h:r=p;{subst h;rw[O]at u;exact u};{have:=u.add (J.smul (k r));refine cast (congrArg (Sp _) (funext fun j=>?_)) this;simp only[elim,if_pos (show r≠p∧r<n from⟨h,V⟩)];rw[UInt8.xor_assoc];simp}};{intro r V;unfold elim;split;{exact(Sp.row (Rows.mk V)).add ((Sp.row (Rows.mk Z)).smul (k r))};{exact .row (Rows.mk V)}}
def zAr(q:Nat->Bool)(p:Nat):Nat->Option Nat
 | 0=>none
 | m+1=>if q p then some p else zAr q (p+1) m
theorem zGg{p m i:Nat}(h:zAr q p m=some i):p≤i∧i<p+m∧q i=true∧∀k,p≤k->k<i->q k=false:=by
 (induction m generalizing p with |zero=>(simp[zAr]at h)|succ m ih=>(simp only[zAr]at h;by_cases u:q p=true;{simp[u]at h;subst h;exact⟨Nat.le_refl _,by omega,u,fun k V O=>by omega⟩};{simp only[u]at h;obtain⟨V,O,h3,Z⟩:=ih (by simpa using h);refine⟨by omega,by omega,h3,fun k hk J=>?_⟩;by_cases e:k=p;{subst e;simpa using u};{exact Z k (by omega) J}}))
theorem zGh{p m:Nat}(h:zAr q p m=none):∀k,p≤k->k<p+m->q k=false:=by
 (induction m generalizing p with |zero=>(intro k O J;omega)|succ m ih=>(simp only[zAr]at h;by_cases u:q p=true;{simp[u]at h};{simp only[u]at h;intro k O J;by_cases e:k=p;{subst e;simpa using u};{exact ih (by simpa using h) k (by omega) (by omega)}}))
def zDM(n c:Nat)(s:Mat × List Nat):Mat × List Nat:=
 match zAr (fun i=>s.1 i c !=0) s.2.length (n - s.2.length)with
 | none=>s
 | some i=>
  let p:=s.2.length
  let u:=zFj s.1 i p
  let J:=zDc u p (inv (u p c))
  (elim J n p (fun r=>J r c),s.2++[c])
def zAh(n:Nat)(M:Mat):Nat->Mat × List Nat
 | 0=>(M,[])
 | c+1=>zDM n c (zAh n M c)
structure zIA (n:Nat) (M0:Mat) (c:Nat) (s:Mat × List Nat):Prop where
 ech:Ech n s.1 c s.2
 same:zG2 n M0 s.1
 rank:s.2.length=rk (Rows n M0) c
 alone:∀i (h:i<s.2.length),∀r<n,s.1 r s.2[i]=if r=i then 1 else 0
theorem zIA.step{M0:Mat}{s:Mat × List Nat}(h:zIA n M0 c s):zIA n M0 (c+1) (zDM n c s):=by
 obtain⟨M,u⟩:=s;obtain⟨J,V,a0,O⟩:=h;simp only at J V a0 O;unfold zDM;simp only;generalize hf:zAr (fun i=>M i c !=0) u.length (n - u.length)=f;have c5:=J.le;(cases f with |none=>(have hz:=zGh hf;obtain⟨h1,h2⟩:=J.none (fun i h1 h2=>by simpa using hz i h1 (by omega));refine⟨h1,V,?_,O⟩;show u.length=_;rw[zKB (fun hl=>h2 ((V.led c).1 hl)),a0])|some i=>(obtain⟨h1,h2,h3,_⟩:=zGg hf;have b4:i<n:=(by omega);have Z:u.length<n:=(by omega);have c1:M i c≠0:=(by simpa using h3);simp only;generalize hM1:zFj M i u.length=M1;have b3:M1 u.length=M i:=(by subst hM1;unfold zFj;by_cases e:u.length=i;{simp[e]};{simp[e]});have b2:∀r<u.length,M1 r=M r:=(by intro r hr;subst hM1;unfold zFj;simp[show r≠i by omega,show r≠u.length by omega]);have b0:∀r,u.length<r->r<n->∀j<c,M1 r j=0:=(by intro r hr a3 j hj;subst hM1;unfold zFj;by_cases e:r=i;{simp[e];exact J.rest _ (Nat.le_refl _) Z j hj};{simp[e,show r≠u.length by omega];exact J.rest _ (by omega) a3 j hj});have b9:=V.trans (hM1▸zNk M b4 Z);generalize hk:inv (M1 u.length c)=k;have a8:mul k (M i c)=1:=(by rw[<-hk,b3];exact zHv c1);have c0:k≠0:=fun e=>(by rw[e,zero_mul]at a8;exact absurd a8 (by decide));generalize hM2:zDc M1 u.length k=M2;have b6:∀j,M2 u.length j=mul k (M i j):=(by intro j;subst hM2;simp[zDc,b3]);have a7:∀r,r≠u.length->M2 r=M1 r:=(by intro r hr;subst hM2;simp[zDc,hr]);have c4:=b9.trans (hM2▸zMC M1 Z c0);generalize hM3:elim M2 n u.length (fun r=>M2 r c)=M3;have a2:M3 u.length=M2 u.length:=(by subst hM3;simp[elim]);have a5:∀r,r≠u.length->r<n->∀j,M3 r j=M2 r j^^^mul (M2 r c) (M2 u.length j):=(by intro r hr a3 j;subst hM3;simp[elim,hr,a3]);have b5:=c4.trans (hM3▸zNl M2 _ Z);have a1:∀j<c,M2 u.length j=0:=(by intro j hj;rw[b6,J.rest i h1 b4 j hj,mul_zero]);have a4:M2 u.length c=1:=(by rw[b6,a8]);have a9:Ech n M3 (c+1) (u++[c]):=(by refine J.some Z (fun r hr j hj=>?_) ⟨fun j hj=>?_,?_⟩ (fun r hr a3 j hj=>?_);{rw[a5 r (by omega) (by omega),a1 j hj,mul_zero,a7 r (by omega),b2 r hr];simp};{rw[a2,a1 j hj]};{rw[a2,a4];decide};{rw[a5 r (by omega) a3];by_cases e:j=c;{subst e;rw[a4,mul_one];simp};{rw[a1 j (by omega),mul_zero,a7 r (by omega),b0 r hr a3 j (by omega)];rfl}});have b7:Led (Rows n M0) c:=⟨M3 u.length,b5.bwd (.row (Rows.mk Z)),fun j hj=>by rw[a2,a1 j hj],by rw[a2,a4];decide⟩;refine⟨a9,b5,?_,fun x hx r hr=>?_⟩;{show(u++[c]).length=_;rw[zG1 b7,List.length_append,<-a0];rfl};{show M3 r (u++[c])[x]=_;by_cases a6:x<u.length;{have he:(u++[c])[x]=u[x]:=List.getElem_append_left a6;rw[he];have b1:=(J.lead x a6).2;by_cases e:r=u.length;{subst e;rw[a2,a1 _ b1,if_neg (by omega)]};{rw[a5 r e hr,a1 _ b1,mul_zero,a7 r e];have:M1 r u[x]=if r=x then 1 else 0:=(by subst hM1;unfold zFj;by_cases e':r=i;{subst e';simp only[if_true];rw[O x a6 _ Z,if_neg (by omega),if_neg (by omega)]};{simp only[e',e,if_false];exact O x a6 r hr});rw[this];simp}};{have c3:x=u.length:=(by have:x<(u++[c]).length:=hx;simp at this;omega);subst c3;have he:(u++[c])[u.length]=c:=(by simp);rw[he];by_cases e:r=u.length;{subst e;rw[a2,a4,if_pos rfl]};{rw[a5 r e hr,a4,mul_one,if_neg e];simp}}}))
theorem zEo(n:Nat)(M:Mat)(c:Nat):zIA n M c (zAh n M c):=by
 (induction c with |zero=>(exact⟨Ech.start n M,zG2.refl n M,by simp[zAh,zRn],fun i h=>absurd h (by simp[zAh])⟩)|succ c ih=>(exact ih.step))
theorem zCq(n:Nat)(M:Mat)(w:Nat):(zAh n M w).2.length=rk (Rows n M) w:=(zEo n M w).rank
def cs(P:List F)(x:F->F)(y:F):F:=P.foldr (fun a s=>mul (x a) (inv (a^^^y))^^^s) 0
def sm(P:List F)(x:F->F):F:=P.foldr (fun a s=>x a^^^s) 0
theorem xne{a b:F}(h:a≠b):a^^^b≠0:=fun e=>h (by
 have:a^^^(a^^^b)=a:=by rw[e];simp
 rw[zFM]at this;exact this.symm)
theorem zRd{a y z:F}(u:a≠y)(J:a≠z):inv (a^^^y)^^^inv (a^^^z)=mul (z^^^y) (mul (inv (a^^^z)) (inv (a^^^y))):=by
 have e:z^^^y=(a^^^y)^^^(a^^^z):=(by rw[show(a^^^y)^^^(a^^^z)=(a^^^a)^^^(z^^^y)by ac_rfl];simp);rw[e,zDG];rw[show mul (a^^^y) (mul (inv (a^^^z)) (inv (a^^^y)))=mul (mul (a^^^y) (inv (a^^^y))) (inv (a^^^z))by rw[zAg,zU8 (inv (a^^^z))]];rw[zEj (xne u),one_mul,<-zAg (a^^^z),zEj (xne J),one_mul];ac_rfl
theorem zRe(P:List F)(x:F->F){y z:F}(O:∀a∈P,a≠y)(V:∀a∈P,a≠z):
  cs P x y^^^cs P x z=mul (z^^^y) (cs P (fun a=>mul (x a) (inv (a^^^z))) y):=by
 (induction P with |nil=>(simp[cs,mul_zero])|cons a P u=>(have u:=u (fun b J=>O b (List.mem_cons_of_mem _ J)) (fun b J=>V b (List.mem_cons_of_mem _ J));simp only[cs,List.foldr_cons]at u ⊢;rw[zCk,<-u];rw[show∀p q r s:F,(p^^^q)^^^(r^^^s)=(p^^^r)^^^(q^^^s)from fun p q r s=>by ac_rfl];congr 1;rw[<-zCk,zRd (O a (List.mem_cons_self ..)) (V a (List.mem_cons_self ..)),<-zAg,zU8 (x a),zAg,zAg]))
theorem zPf(P:List F)(x:F->F)(u:F){y:F}(O:∀a∈P,a≠y):
  mul (u^^^y) (cs P x y)=sm P x^^^cs P (fun a=>mul (x a) (u^^^a)) y:=by
 (induction P with |nil=>(simp[cs,sm,mul_zero])|cons a P J=>(have J:=J (fun b V=>O b (List.mem_cons_of_mem _ V));simp only[cs,sm,List.foldr_cons]at J ⊢;rw[zCk,J];rw[show∀p q r s:F,(p^^^q)^^^(r^^^s)=(p^^^r)^^^(q^^^s)from fun p q r s=>by ac_rfl];congr 1;have e:u^^^y=(a^^^y)^^^(u^^^a):=(by rw[show(a^^^y)^^^(u^^^a)=(a^^^a)^^^(u^^^y)by ac_rfl];simp);rw[e,zDG,zU8 (a^^^y),zAg,zU8 (inv _) (a^^^y),zEj (xne (O a (List.mem_cons_self ..))),mul_one];congr 1;rw[<-zAg,zU8 (u^^^a)]))
theorem zRf(P:List F)(x:F->F)(y:F)(h:∀a∈P,x a=0):cs P x y=0:=by
 (induction P with |nil=>(rfl)|cons b P ih=>(show mul (x b) _^^^cs P x y=0;rw[h b (List.mem_cons_self ..),zero_mul,ih (fun a u=>h a (List.mem_cons_of_mem _ u))];rfl))
theorem zTA(n:Nat):∀(P:List F),P.length=n->P.Nodup->∀(Y:List F),Y.Nodup->(∀a∈P,∀y∈Y,a≠y)->∀(x:F->F) (b:F),
  (b=0∧n≤Y.length∨n<Y.length)->(∀y∈Y,cs P x y=b)->∀a∈P,x a=0:=by
 induction n with
 | zero=>intro P hP _ _ _ _ _ _ _ _ a J;rw[List.length_eq_zero_iff.1 hP]at J;simp at J
 | succ n ih=>
  have a4:∀(P:List F),P.length=n+1->P.Nodup->∀(Y:List F),Y.Nodup->(∀a∈P,∀y∈Y,a≠y)->∀(x:F->F),
    n+1≤Y.length->(∀y∈Y,cs P x y=0)->∀a∈P,x a=0:=by
   intro P hP Z Y V u x a2 hz
   match P,hP with
   | a0::P',hP=>
    have a6:P'.length=n:=(by simpa using hP);have O:=List.nodup_cons.1 Z;have h1:∀a∈P',(fun a=>mul (x a) (a0^^^a)) a=0:=by
     refine ih P' a6 O.2 Y V (fun a J=>u a (List.mem_cons_of_mem _ J)) _ (x a0^^^sm P' x) (.inr (by omega)) (fun y hy=>?_);have h0:=hz y hy;have a3:=zPf P' x a0 (y:=y) (fun a J=>u a (List.mem_cons_of_mem _ J) y hy);have a1:mul (x a0) (inv (a0^^^y))^^^cs P' x y=0:=h0;have h2:cs P' x y=mul (x a0) (inv (a0^^^y)):=by
      have:=congrArg (fun t=>mul (x a0) (inv (a0^^^y))^^^t) a1;simp only[zFM]at this;simpa using this
     rw[h2,<-zAg,zU8 (a0^^^y),zAg,zEj (xne (u a0 (List.mem_cons_self ..) y hy)),mul_one]at a3;rw[a3];show _=sm P' x^^^_^^^sm P' x;rw[show∀p q:F,p^^^q^^^p=p^^^(p^^^q)from fun p q=>by ac_rfl,zFM]
    have h2:∀a∈P',x a=0:=by
     intro a J;rcases zB0 (h1 a J)with h | h
     ·exact h
     ·exact absurd h (xne (fun e=>O.1 (e▸J)))
    intro a J;rcases List.mem_cons.1 J with rfl | ha'
    ·match Y,a2 with
     | y::Y',_=>
      have h0:=hz y (List.mem_cons_self ..);have hc:=zRf P' x y h2;have a1:mul (x a) (inv (a^^^y))^^^cs P' x y=0:=h0;rw[hc]at a1;rcases zB0 (show mul (x a) (inv (a^^^y))=0 by simpa using a1)with h | h
      ·exact h
      ·exact absurd h (inv_ne (xne (u a (List.mem_cons_self ..) y (List.mem_cons_self ..))))
    ·exact h2 a ha'
  intro P hP Z Y V u x b hb hz;rcases hb with⟨a5,hl⟩ | hl;{subst a5;exact a4 P hP Z Y V u x hl hz}
  ·match Y,hl with
   | y0::Y',hl=>
    have O:=List.nodup_cons.1 V;have hx:∀a∈P,(fun a=>mul (x a) (inv (a^^^y0))) a=0:=(by refine a4 P hP Z Y' O.2 (fun a J y hy=>u a J y (List.mem_cons_of_mem _ hy)) _ (by simp at hl;omega) (fun y hy=>?_);have hd:=zRe P x (y:=y) (z:=y0) (fun a J=>u a J y (List.mem_cons_of_mem _ hy)) (fun a J=>u a J y0 (List.mem_cons_self ..));rw[hz y (List.mem_cons_of_mem _ hy),hz y0 (List.mem_cons_self ..),zLR]at hd;rcases zB0 hd.symm with h | h;{exact absurd h (xne (fun e=>O.1 (e▸hy)))};{exact h});intro a J;rcases zB0 (hx a J)with h | h;{exact h};{exact absurd h (inv_ne (xne (u a J y0 (List.mem_cons_self ..))))}
def dot(w:Nat)(v x:Vec):F:=(List.range w).foldr (fun j s=>mul (v j) (x j)^^^s) 0
theorem zNM(l:List Nat)(f g:Nat->F):l.foldr (fun j s=>(f j^^^g j)^^^s) 0=l.foldr (fun j s=>f j^^^s) 0^^^l.foldr (fun j s=>g j^^^s) 0:=by
 (induction l with |nil=>(simp)|cons a l ih=>(simp only[List.foldr_cons,ih];ac_rfl))
theorem zLx(l:List Nat)(c:F)(f:Nat->F):l.foldr (fun j s=>mul c (f j)^^^s) 0=mul c (l.foldr (fun j s=>f j^^^s) 0):=by
 (induction l with |nil=>(simp[mul_zero])|cons a l ih=>(simp only[List.foldr_cons,ih,zCk]))
theorem zCW(l:List Nat)(f:Nat->F)(h:∀j∈l,f j=0):l.foldr (fun j s=>f j^^^s) 0=0:=by
 (induction l with |nil=>(rfl)|cons a l ih=>(simp only[List.foldr_cons];rw[h a (List.mem_cons_self ..),ih (fun j u=>h j (List.mem_cons_of_mem _ u))];rfl))
theorem zJ2(w:Nat)(u v x:Vec):dot w (fun j=>u j^^^v j) x=dot w u x^^^dot w v x:=by
 unfold dot;rw[<-zNM];simp only[zDG]
theorem zPg(w:Nat)(c:F)(v x:Vec):dot w (fun j=>mul c (v j)) x=mul c (dot w v x):=by
 unfold dot;rw[<-zLx];simp only[zAg]
theorem zK0(w:Nat)(x:Vec):dot w (fun _=>0) x=0:=by
 unfold dot;exact zCW _ _ fun j _=>zero_mul _
theorem zHg{S:Vec->Prop}{x:Vec}(h:∀r,S r->dot w r x=0){v:Vec}(hv:Sp S v):dot w v x=0:=by
 (induction hv with |zero=>(exact zK0 w x)|step c hr _ ih=>(rw[zJ2 w (fun j=>mul c _) _ x,zPg,h _ hr,ih,mul_zero];rfl))
theorem zEA(l:List Nat)(V:l.Nodup)(f:Nat->F)(k:Nat)(hk:k∈l)(h:∀j∈l,j≠k->f j=0):l.foldr (fun j s=>f j^^^s) 0=f k:=by
 (induction l with |nil=>(simp at hk)|cons a l ih=>(have u:=List.nodup_cons.1 V;simp only[List.foldr_cons];rcases List.mem_cons.1 hk with rfl | hk';{rw[zCW l f (fun j J=>h j (List.mem_cons_of_mem _ J) (fun e=>u.1 (e▸J)))];simp};{rw[h a (List.mem_cons_self ..) (fun e=>u.1 (e▸hk')),ih u.2 hk' (fun j J O=>h j (List.mem_cons_of_mem _ J) O)];simp}))
theorem zGW{S:Vec->Prop}(h:rk S w<w):∃c<w,¬Led S c:=by
 (induction w with |zero=>(omega)|succ w ih=>(by_cases u:Led S w;{rw[zG1 u]at h;obtain⟨c,hc,J⟩:=ih (by omega);exact⟨c,by omega,J⟩};{exact⟨w,by omega,u⟩}))
theorem zIf{M:Mat}(h:rk (Rows n M) w<w):∃x:Vec,(∃c<w,x c≠0)∧∀i<n,dot w (M i) x=0:=by
 obtain⟨f,hf,a5⟩:=zGW h;have hr:=zEo n M w;generalize zAh n M w=s at hr;obtain⟨R,u⟩:=s;obtain⟨J,a0,a2,V⟩:=hr;simp only at J a0 a2 V;have a4:∀i (Z:i<u.length),u[i]≠f:=(by intro i Z e;refine a5 ((a0.led f).2 ⟨R i,.row (Rows.mk (by have:=J.le;omega)),?_⟩);rw[<-e];exact(J.lead i Z).1);refine⟨fun j=>if j=f then 1 else match u.idxOf? j with | some i=>R i f | none=>0,⟨f,hf,by simp⟩,fun i Z=>?_⟩;refine zHg (S:=Rows n R) ?_ (a0.1 i Z);rintro r ⟨k,_,hk,rfl⟩;generalize hx:(fun j=>if j=f then(1:F)else match u.idxOf? j with | some i=>R i f | none=>0)=x;have b0:x f=1:=(by subst hx;simp);have a8:∀i (Z:i<u.length),x u[i]=R i f:=(by intro i Z;subst hx;simp only[if_neg (a4 i Z)];have b1:u.Nodup:=J.mono.imp (fun h=>Nat.ne_of_lt h);have:u.idxOf? u[i]=some i:=(by rw[List.idxOf?_eq_some_iff];exact⟨Z,by simp,fun j hj=>by have:=List.pairwise_iff_getElem.1 J.mono j i (by omega) Z hj;simp;omega⟩);rw[this]);have a6:∀j,j≠f->(∀i (Z:i<u.length),u[i]≠j)->x j=0:=(by intro j hj hp;subst hx;simp only[if_neg hj];have:u.idxOf? j=none:=(by rw[List.idxOf?_eq_none_iff];intro hm;obtain⟨i,Z,e⟩:=List.getElem_of_mem hm;exact hp i Z e);rw[this])
 have a1:dot w (R k) x=R k f^^^(if hk:k<u.length then R k f else 0):=by
  by_cases O:k<u.length
  ·rw[dif_pos O];have a9:=(J.lead k O).2;have e:dot w (R k) x=dot w (fun j=>if j=f then R k j else 0) x^^^dot w (fun j=>if j=f then 0 else R k j) x:=by
    rw[<-zJ2];congr 1
    funext j
    by_cases ej:j=f<;>simp[ej]
   rw[e];congr 1;{unfold dot;rw[zEA _ List.nodup_range _ f (by simpa using hf) (fun j _ hj=>by simp[hj,zero_mul])];simp[b0,mul_one]};{unfold dot;rw[zEA _ List.nodup_range _ u[k] (by simpa using a9) (fun j hj a7=>?_)];{simp only[if_neg (a4 k O)];rw[V k O k hk,if_pos rfl,one_mul,a8 k O]};{by_cases ej:j=f;{simp[ej,zero_mul]};{simp only[if_neg ej];by_cases a3:∃i,∃Z:i<u.length,u[i]=j;{obtain⟨i,Z,rfl⟩:=a3;rw[V i Z k hk,if_neg (fun e=>a7 (by subst e;rfl)),zero_mul]};{rw[a6 j ej (fun i Z e=>a3 ⟨i,Z,e⟩),mul_zero]}}}}
  {rw[dif_neg O];have hz:=J.rest k (by omega) hk;rw[hz f hf];unfold dot;rw[zCW _ _ (fun j hj=>by rw[hz j (by simpa using hj),zero_mul])];rfl}
 rw[a1];by_cases O:k<u.length;{rw[dif_pos O,zLR]};{rw[dif_neg O,J.rest k (by omega) hk f hf];rfl}
theorem zA9(w:Nat)(v x:Vec):dot (w+1) v x=dot w v x^^^mul (v w) (x w):=by
 have u:∀(l:List Nat) (s:F),l.foldr (fun j s=>mul (v j) (x j)^^^s) s=l.foldr (fun j s=>mul (v j) (x j)^^^s) 0^^^s:=(by intro l s;(induction l with |nil=>(simp)|cons a l ih=>(simp only[List.foldr_cons];rw[ih,UInt8.xor_assoc])));unfold dot;rw[List.range_succ,List.foldr_append,List.foldr_cons,List.foldr_nil,u];simp
theorem zBg{u v x y:Vec}(h:∀j,j<w->u j=v j)(h':∀j,j<w->x j=y j):dot w u x=dot w v y:=by
 (induction w with |zero=>(rfl)|succ w ih=>(rw[zA9,zA9,ih (fun j J=>h j (by omega)) (fun j J=>h' j (by omega)),h w (by omega),h' w (by omega)]))
theorem zFG(w:Nat)(u v:Vec):dot w u v=dot w v u:=by
 (induction w with |zero=>(rfl)|succ w ih=>(rw[zA9,zA9,ih,zU8]))
theorem zHn(w:Nat)(v x y:Vec):dot w v (fun j=>x j^^^y j)=dot w v x^^^dot w v y:=by
 rw[zFG,zJ2,zFG w x,zFG w y]
theorem zGX(w:Nat)(v:Vec):dot w v (fun _=>0)=0:=by rw[zFG,zK0]
theorem zNS{w k:Nat}{v x:Vec}(hk:k<w)(h:∀j,j<w->j≠k->mul (v j) (x j)=0):dot w v x=mul (v k) (x k):=by
 unfold dot;exact zEA _ List.nodup_range (fun j=>mul (v j) (x j)) k (by simpa using hk) fun j J u=>h j (by simpa using J) u
theorem zNT{M:Mat}{v:Vec}(h:Sp (Rows n M) v):∃y:Vec,∀j,v j=dot n (fun k=>M k j) y:=by
 (induction h with |zero=>(exact⟨fun _=>0,fun j=>(zGX _ _).symm⟩)|step c hr _ ih=>(obtain⟨y,J⟩:=ih;obtain⟨i,_,O,rfl⟩:=hr;refine⟨fun k=>(if k=i then c else 0)^^^y k,fun j=>?_⟩;rw[zHn,<-J j,zNS O fun k _ u=>by simp[u,mul_zero]];simp[zU8]))
theorem zRh{M:Mat}(y:Vec):Sp (Rows n M) (fun j=>dot n (fun k=>M k j) y):=by
 have u:∀m,m≤n->Sp (Rows n M) (fun j=>dot m (fun k=>M k j) y):=(by intro m;(induction m with |zero=>(intro _;exact Sp.zero)|succ m ih=>(intro O;have J:=(Sp.smul (y m) (.row (Rows.mk (M:=M) (show m<n by omega)))).add (ih (by omega));refine cast (congrArg (Sp (Rows n M)) (funext fun j=>?_)) J;rw[zA9,zU8];ac_rfl)));exact u n (Nat.le_refl _)
def eqM(R:Nat)(u:Mat)(t:Vec):Mat:=fun i j=>if j<R then u j i else t i
def zRi(n R:Nat)(M0:Mat):Vec:=fun j=>match(zAh n M0 R).2.idxOf? j with
 | some i=>(zAh n M0 R).1 i R
 | none=>0
theorem zPk{l:List Nat}(O:l.Pairwise (· <·)){i:Nat}(u:i<l.length):l.idxOf? l[i]=some i:=by
 rw[List.idxOf?_eq_some_iff];exact⟨u,by simp,fun j J=>by have:=List.pairwise_iff_getElem.1 O j i (by omega) u J;simp;omega⟩
theorem zUY{n R:Nat}{M0:Mat}(h:∃y:Vec,∀i<n,dot R (M0 i) y=M0 i R):
  (∀i,(zAh n M0 R).2.length≤i->i<n->(zAh n M0 R).1 i R=0)∧∀i<n,dot R (M0 i) (zRi n R M0)=M0 i R:=by
 have hr:=zEo n M0 R;unfold zRi;generalize zAh n M0 R=s at *;obtain⟨M,u⟩:=s;obtain⟨O,V,a1,J⟩:=hr;simp only at O V a1 J ⊢;obtain⟨y,hy⟩:=h;have hM:∀i<n,dot R (M i) y=M i R:=(by intro i hi;have h0:dot (R+1) (M i) (fun j=>if j<R then y j else 1)=0:=(by refine zHg (S:=Rows n M0) ?_ (V.2 i hi);rintro r ⟨k,_,hk,rfl⟩;rw[zA9,zBg (y:=y) (fun _ _=>rfl) (fun j Z=>if_pos Z),hy k hk];simp[mul_one]);rw[zA9,zBg (y:=y) (fun _ _=>rfl) (fun j Z=>if_pos Z)]at h0;simp only[Nat.lt_irrefl,if_false,mul_one]at h0;have:=congrArg (fun t=>t^^^M i R) h0;simp only[UInt8.xor_assoc,zLR]at this;simpa using this);have hz:∀i,u.length≤i->i<n->M i R=0:=(by intro i h1 h2;rw[<-hM i h2];unfold dot;exact zCW _ _ fun j Z=>(by rw[O.rest i h1 h2 j (by simpa using Z),zero_mul]));refine⟨hz,fun i hi=>?_⟩;generalize hx:(fun j=>match u.idxOf? j with | some i=>M i R | none=>(0:F))=x;have a6:∀k (hk:k<u.length),x u[k]=M k R:=(by intro k hk;subst hx;simp only[zPk O.mono hk]);have a4:∀j,(∀k (hk:k<u.length),u[k]≠j)->x j=0:=(by intro j hp;subst hx;have:u.idxOf? j=none:=(by rw[List.idxOf?_eq_none_iff];intro hm;obtain⟨k,hk,e⟩:=List.getElem_of_mem hm;exact hp k hk e);simp only[this]);have a3:∀k<n,dot R (M k) x=M k R:=(by intro k hk;by_cases a0:k<u.length;{rw[zNS (O.lead k a0).2 fun j _ a5=>?_,a6 k a0,J k a0 k hk,if_pos rfl,one_mul];by_cases a2:∃i,∃hi:i<u.length,u[i]=j;{obtain⟨i,hi,rfl⟩:=a2;rw[J i hi k hk,if_neg (fun e=>a5 (by subst e;rfl)),zero_mul]};{rw[a4 j (fun i hi e=>a2 ⟨i,hi,e⟩),mul_zero]}};{rw[hz k (by omega) hk];unfold dot;exact zCW _ _ fun j Z=>(by rw[O.rest k (by omega) hk j (by simpa using Z),zero_mul])});have h0:dot (R+1) (M0 i) (fun j=>if j<R then x j else 1)=0:=(by refine zHg (S:=Rows n M) ?_ (V.1 i hi);rintro r ⟨k,_,hk,rfl⟩;rw[zA9,zBg (y:=x) (fun _ _=>rfl) (fun j Z=>if_pos Z),a3 k hk];simp[mul_one]);rw[zA9,zBg (y:=x) (fun _ _=>rfl) (fun j Z=>if_pos Z)]at h0;simp only[Nat.lt_irrefl,if_false,mul_one]at h0;have:=congrArg (fun t=>t^^^M0 i R) h0;simp only[UInt8.xor_assoc,zLR]at this;simpa using this
theorem zHo{D R:Nat}{J:Mat}{t:Vec}(h:∃u,Sp (Rows R J) u∧∀j<D,u j=t j):
  (∀i,(zAh D (eqM R J t) R).2.length≤i->i<D->(zAh D (eqM R J t) R).1 i R=0)∧
  ∀j<D,dot R (fun k=>J k j) (zRi D R (eqM R J t))=t j:=by
 obtain⟨u,hu,O⟩:=h;obtain⟨y,hy⟩:=zNT hu;have Z:∀(i:Nat) (x:Vec),dot R (eqM R J t i) x=dot R (fun k=>J k i) x:=fun i x=>zBg (fun j V=>by unfold eqM;rw[if_pos V]) fun _ _=>rfl;have hr:∀i,eqM R J t i R=t i:=fun i=>(by unfold eqM;rw[if_neg (by omega)]);obtain⟨h1,h2⟩:=zUY (n:=D) (R:=R) (M0:=eqM R J t) ⟨y,fun i hi=>by rw[Z,hr,<-hy,O i hi]⟩;exact⟨h1,fun j V=>by rw[<-Z,h2 j V,hr]⟩
def cnt(n:Nat)(q:Nat->Bool):Nat:=((List.range n).filter q).length
theorem zCN(n:Nat)(q:Nat->Bool):cnt (n+1) q=cnt n q+if q n then 1 else 0:=by
 unfold cnt;rw[List.range_succ,List.filter_append];by_cases h:q n<;>simp[h]
theorem zSd:∀{n:Nat},(∀k,k<n->q k=true)->cnt n q=n
 | 0,_=>by simp[cnt]
 | n+1,h=>by rw[zCN,zSd fun k hk=>h k (by omega),if_pos (h n (by omega))]
theorem zIJ:∀{n:Nat},(∀k,k<n->q k=false)->cnt n q=0
 | 0,_=>by simp[cnt]
 | n+1,h=>by rw[zCN,zIJ fun k hk=>h k (by omega),if_neg (by simp[h n (by omega)])]
theorem zJj{p q:Nat->Bool}:∀{n:Nat},(∀k,k<n->p k=q k)->cnt n p=cnt n q
 | 0,_=>by simp[cnt]
 | n+1,h=>by rw[zCN,zCN,zJj fun k hk=>h k (by omega),h n (by omega)]
end Lin
namespace Lin
open Gf
def RL(D:Nat)(M:Mat)(l:List Nat):Vec->Prop:=fun r=>∃i∈l,r=fun j=>if j<D then M i j else 0
def tr(D:Nat)(M:Mat)(i:Nat):Vec:=fun j=>if j<D then M i j else 0
def zCi(D:Nat)(M:Mat)(l k:List Nat):Prop:=∀i∈k,Sp (RL D M l) (tr D M i)
theorem RL.mk{D:Nat}{M:Mat}{l:List Nat}{i:Nat}(h:i∈l):RL D M l (tr D M i):=⟨i,h,rfl⟩
theorem RL.sub{D:Nat}{M:Mat}{l k:List Nat}(h:∀i∈l,i∈k):∀r,RL D M l r->Sp (RL D M k) r:=by
 rintro r ⟨i,u,rfl⟩;exact .row (RL.mk (h i u))
theorem zO2{D:Nat}{M:Mat}{l:List Nat}{v:Vec}(h:Sp (RL D M l) v):∀j,D≤j->v j=0:=by
 (induction h with |zero=>(intro j _;rfl)|step c hr _ ih=>(intro j u;obtain⟨i,_,rfl⟩:=hr;show mul c (if j<D then M i j else 0)^^^_=0;rw[if_neg (by omega),mul_zero,ih j u];rfl))
def nth(D:Nat)(M:Mat)(l:List Nat):Mat:=fun t=>tr D M (l.getD t 0)
theorem zCB{l:List Nat}{t:Nat}(h:t<l.length):l.getD t 0∈l:=by
 rw[List.getD_eq_getElem?_getD,List.getElem?_eq_getElem h];exact List.getElem_mem h
theorem zIM{D:Nat}{M:Mat}{l:List Nat}{r:Vec}:Rows l.length (nth D M l) r↔RL D M l r:=by
 constructor;{rintro⟨t,_,u,rfl⟩;exact⟨l.getD t 0,zCB u,rfl⟩}
 ·rintro⟨i,J,rfl⟩;obtain⟨t,u,rfl⟩:=List.getElem_of_mem J;refine⟨t,Nat.zero_le _,u,?_⟩
  funext j
  simp[nth,tr,List.getD_eq_getElem?_getD,u]
theorem zT3(D:Nat)(M:Mat)(l:List Nat)(w:Nat):rk (Rows l.length (nth D M l)) w=rk (RL D M l) w:=
 zOD (fun _ h=>.row (zIM.1 h)) (fun _ h=>.row (zIM.2 h)) w
theorem zLj(D:Nat)(M:Mat)(l:List Nat)(w:Nat):rk (RL D M l) w≤l.length:=by
 rw[<-zT3];have h:=zEo l.length (nth D M l) w;rw[<-h.rank];exact h.ech.le
theorem zCi.rk{D:Nat}{M:Mat}{l k:List Nat}(h:zCi D M l k):rk (RL D M k) D≤rk (RL D M l) D:=
 zF3 (fun r u=>by obtain⟨i,J,rfl⟩:=u;exact h i J) D
theorem zCi.len{D:Nat}{M:Mat}{l k:List Nat}(h:zCi D M l k):Lin.rk (RL D M k) D≤l.length:=Nat.le_trans h.rk (zLj _ _ _ _)
theorem zJm{D:Nat}{M:Mat}{l k:List Nat}:Lin.rk (RL D M (l++k)) D=Lin.rk (RL D M l) D↔zCi D M l k:=by
 constructor
 ·intro h i J;obtain⟨u,V,O⟩:=zHD (S:=RL D M l) (T:=RL D M (l++k)) (RL.sub fun i J=>List.mem_append_left _ J) D h.symm (.row (RL.mk (List.mem_append_right l J)));have:u=tr D M i:=by
   funext j
   by_cases Z:j<D;{exact O j Z};{rw[zO2 V j (by omega)];unfold tr;rw[if_neg Z]}
  exact this▸V
 {intro h;refine zOD (fun r hr=>?_) (RL.sub fun i J=>List.mem_append_left _ J) D;obtain⟨i,J,rfl⟩:=hr;rcases List.mem_append.1 J with h1 | h1;{exact .row (RL.mk h1)};{exact h i h1}}
theorem zCi.mono{D:Nat}{M:Mat}{l k m:List Nat}(h:zCi D M l k)(u:∀i∈l,i∈m):zCi D M m k:=fun i J=>(h i J).mono (RL.sub u)
theorem zCi.trans{D:Nat}{M:Mat}{l k m:List Nat}(h:zCi D M l k)(h':zCi D M k m):zCi D M l m:=fun i u=>
 (h' i u).mono fun r J=>by obtain⟨j,O,rfl⟩:=J;exact h j O
theorem zCi.refl(D:Nat)(M:Mat)(l:List Nat):zCi D M l l:=fun _ u=>.row (RL.mk u)
theorem zT4(D:Nat)(M:Mat):∀l:List Nat,∃b:List Nat,b.Sublist l∧Lin.rk (RL D M b) D=b.length∧zCi D M b l
 | []=>⟨[],List.Sublist.refl _,Nat.le_antisymm (zLj _ _ _ _) (Nat.zero_le _),zCi.refl _ _ _⟩
 | a::l=>by
  obtain⟨b,O,h2,Z⟩:=zT4 D M l;by_cases V:Sp (RL D M b) (tr D M a)
  ·exact⟨b,O.cons _,h2,fun i u=>by
    rcases List.mem_cons.1 u with rfl | u
    ·exact V
    ·exact Z i u⟩
  ·refine⟨a::b,O.cons_cons a,?_,fun i u=>?_⟩
   ·have a1:Lin.rk (RL D M (b++[a])) D≠Lin.rk (RL D M b) D:=fun e=>V (zJm.1 e a (by simp));have a0:Lin.rk (RL D M b) D≤Lin.rk (RL D M (b++[a])) D:=zF3 (RL.sub fun i u=>List.mem_append_left _ u) D;have J:=zLj D M (b++[a]) D;have he:Lin.rk (RL D M (a::b)) D=Lin.rk (RL D M (b++[a])) D:=zOD (RL.sub fun i u=>(List.perm_append_singleton a b).symm.subset u) (RL.sub fun i u=>(List.perm_append_singleton a b).subset u) D;simp at J ⊢;omega
   ·rcases List.mem_cons.1 u with rfl | u
    ·exact .row (RL.mk (List.mem_cons_self ..))
    ·exact(Z i u).mono (RL.sub fun i u=>List.mem_cons_of_mem _ u)
def zGk(l:List Nat):Nat:=l.foldr (fun i m=>2^i|||m) 0
theorem zAz(l:List Nat)(i:Nat):(zGk l).testBit i=decide (i∈l):=by
 (induction l with |nil=>(simp[zGk])|cons a l ih=>(show(2^a|||zGk l).testBit i=_;rw[Nat.testBit_or,ih,Nat.testBit_two_pow];by_cases h:a=i;{simp[h]};{simp[h,Ne.symm h]}))
theorem zKg{l:List Nat}{N:Nat}(h:∀i∈l,i<N):zGk l<2^N:=by
 (induction l with |nil=>(exact Nat.pow_pos (by omega))|cons a l ih=>(exact Nat.or_lt_two_pow (Nat.pow_lt_pow_right (by omega) (h a (List.mem_cons_self ..))) (ih fun i u=>h i (List.mem_cons_of_mem _ u))))
theorem zKh{N:Nat}{l:List Nat}(h:l.Pairwise (· <·))(u:∀i∈l,i<N):(List.range N).filter (zGk l).testBit=l:=by
 refine List.Perm.eq_of_pairwise (le:=(· <·)) (fun a b _ _ J O=>by omega) (List.Pairwise.filter _ List.pairwise_lt_range) h ?_;refine(List.perm_ext_iff_of_nodup (List.Pairwise.filter _ List.nodup_range) (h.imp fun h=>Nat.ne_of_lt h)).2 fun i=>?_;simp only[List.mem_filter,List.mem_range,zAz,decide_eq_true_eq];exact⟨fun h=>h.2,fun h=>⟨u i h,h⟩⟩
end Lin
namespace Lin
open Gf
theorem zRR(p q:Nat->Bool):∀n,cnt n (fun k=>p k||q k)≤cnt n p+cnt n q
 | 0=>by simp[cnt]
 | n+1=>by
  rw[zCN,zCN,zCN];have:=zRR p q n;by_cases h:p n=true
  ·simp only[h,Bool.true_or,if_true];omega
  ·by_cases h':q n=true
   ·simp only[h',Bool.or_true,if_true];omega
   ·simp only[h,h',Bool.or_self];simp;omega
theorem zT5(a n:Nat):cnt n (fun k=>k==a)≤1:=by
 (induction n with |zero=>(simp[cnt])|succ n ih=>(rw[zCN];by_cases h:n=a;{subst h;rw[zIJ fun k hk=>by simp;omega];simp};{rw[if_neg (by simpa using h)];exact ih}))
theorem zO3(n:Nat):∀l:List Nat,cnt n (fun k=>decide (k∈l))≤l.length
 | []=>by rw[zIJ fun k _=>by simp];exact Nat.zero_le _
 | a::l=>by
  have V:=zO3 n l;have u:=zRR (fun k=>k==a) (fun k=>decide (k∈l)) n;have Z:=zT5 a n;have J:cnt n (fun k=>decide (k∈a::l))=cnt n (fun k=>(k==a)||decide (k∈l)):=zJj fun k _=>by
   by_cases e:k=a<;>by_cases O:k∈l<;>simp[e,O]
  rw[J];simp at u ⊢;omega
end Lin
