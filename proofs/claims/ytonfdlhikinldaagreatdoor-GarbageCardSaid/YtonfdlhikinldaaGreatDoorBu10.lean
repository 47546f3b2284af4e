import Derived.Test.YtonfdlhikinldaaGreatDoorBu02
import Derived.Test.YtonfdlhikinldaaGreatDoorBu03
import Derived.OrdersHeld
set_option maxRecDepth 100000
set_option linter.all false
set_option linter.unusedVariables false
set_option maxHeartbeats 16000000
namespace Go.Proofs.YtonfdlhikinldaaGreatDoor
open Go Go.RowKit Go.Proofs Lin Go.Proofs.Tryz
variable {l:List Oper}{a:Act}{K:Act->Prop}{w:zw}{Q:Exit->Act->World->Prop}{i:Nat}{o:Oper}{T:Array Bool->Bool}{L:Nat->Bool}{C:World->Prop}
def zLM(md:Region.Mode)(u:Array Oper)(h:Nat)(T:Array Bool->Bool):List Nat->Array Bool->Bool
 | [],listed=>T listed
 | m::ms,listed=>decide (Region.ready md u listed=[m])&&decide (m<h)&&zLM md u h T ms (listed.setIfInBounds m true)
def zI5(md:Region.Mode)(u:Array Oper)(h:Nat)(T:Array Bool->Bool):List Nat->Array Bool->Bool
 | [],listed=>T listed
 | i::is,listed=>(Region.ready md u listed).contains i&&Region.free md u listed i&&decide (i<h)&&zI5 md u h T is (listed.setIfInBounds i true)
def zFw(md:Region.Mode)(u:Array Oper)(g h:Nat):List (List Nat × List Nat)->Array Bool->Bool
 | []=>Region.seqB md u g h
 | (idx,ms)::rest=>zI5 md u h (zLM md u h (zFw md u g h rest) ms) idx
def zDw:List (List Nat × List Nat)->Nat
 | []=>0
 | (idx,ms)::rest=>idx.length+(ms.length+zDw rest)
def zN4(md:Region.Mode)(u:Array Oper)(s:List (List Nat × List Nat))(h:Nat):Bool:=
 Region.noSelect u&&decide (h<u.size)&&decide (zDw s=h)&&Region.sinkB md u h&&Region.chainB md u h&&s.all (fun p=>p.1.all fun i=>(u[i]?).isSome)&&zFw md u (u.size - h) h s (Array.replicate u.size false)
section
variable {P:Program} {ops:Array Oper} {Q:Exit->Act->World->Prop} {md:Region.Mode} {S:World->Prop}
def zQ(P:Program)(l:List Oper)(Q:Exit->Act->World->Prop)(S:World->Prop)(K:Act->World->Prop):List (List Nat × List Nat)->Act->World->Prop
 | [],a,w=>K a w
 | (idx,ms)::rest,a,w=>wpQuiet P l.toArray S (fun u=>zAN P l.toArray Q S (zQ P l Q S K rest) ms u w) (pick l idx) a
theorem zDi{g h f:Nat}{K K':Act->World->Prop}(hT:∀u a w,HeadInv md ops h u->S w->T u=true->K' a w->zBF P md ops Q S h (fun J V w'=>Region.seqB md ops g h J=true∧K V w') f u a w):
  ∀(O:List Nat) (u:Array Bool) (a:Act) (w:zw),HeadInv md ops h u->S w->zLM md ops h T O u=true->zAN P ops Q S K' O a w->
  zBF P md ops Q S h (fun J V w'=>Region.seqB md ops g h J=true∧K V w') (O.length+f) u a w
 | [],u,a,w,inv,hS,hB,hK=>by rw[yK,yc];exact hT _ _ _ inv hS hB hK
 | m::O,u,a,w,inv,hS,hB,hK=>by
  simp only[zLM,yD,yL]at hB;rw[yF,show O.length+1+f=(O.length+f)+1 by omega];refine⟨by rw[hB.1.1];simp,fun i hi=>?_⟩;have Z:=hi;rw[hB.1.1]at hi;have a0:i=m:=by simpa using hi
  subst a0;exact⟨hB.1.2,wpOp_mono (fun V w' h2=>⟨h2.1,zDi hT O _ V w' (inv.set Z hB.1.2) h2.1 hB.2 h2.2⟩) hK⟩
theorem zCR{g h f:Nat}{K:Act->World->Prop}(hS:S w)(V:Region.noSelect ops=true)(hs:Region.sinkB md ops h=true)(hc:Region.chainB md ops h=true)(hn:h<ops.size)
  (hQ:∀c a d v w,Q (.panic c) (Act.put a d v) w->Q (.panic c) a w){Ka:Act->Prop}
  (hT:∀u a,HeadInv md ops h u->T u=true->Ka a->zBF P md ops Q S h (fun J a' w'=>Region.seqB md ops g h J=true∧K a' w') f u a w):
  ∀(O:List Nat) (u:Array Bool) (a:Act),O.all (fun i=>(ops[i]?).isSome)=true->HeadInv md ops h u->
  zI5 md ops h T O u=true->zBp P ops S Ka (O.filterMap fun i=>ops[i]?) a->
  zBF P md ops Q S h (fun J a' w'=>Region.seqB md ops g h J=true∧K a' w') (O.length+f) u a w
 | [],u,a,_,inv,hB,hh=>by rw[yK,yc];exact hT _ _ inv hB hh
 | i::O,u,a,hsome,inv,hB,hh=>by
  simp only[List.all_cons,yD]at hsome;obtain⟨o,ho⟩:=Option.isSome_iff_exists.1 hsome.1;simp only[zI5,yD,yL]at hB;obtain⟨⟨⟨hr,hf⟩,a0⟩,a1⟩:=hB;have Z:i∈Region.ready md ops u:=by simpa using hr
  rw[ym,ho]at hh;obtain⟨v,hy,hK⟩:=hh;rw[yF,show O.length+1+f=(O.length+f)+1 by omega];exact zCl ho (Region.noSelect_spec V) hs hc hn a0 (fun c a w=>hQ c a _ _ w) (fun J a' w' hL=>seqB_ready hL.1) (O.length+f) u a w inv (Region.free_spec ho hf) Z hy hS
   (zCR hS V hs hc hn hQ hT O _ _ hsome.2 (inv.set Z a0) a1 hK)
theorem zBe{g h:Nat}{K:Act->World->Prop}(V:Region.noSelect l.toArray=true)(hs:Region.sinkB md l.toArray h=true)(hc:Region.chainB md l.toArray h=true)(hn:h<l.toArray.size)
  (hQ:∀c a d v w,Q (.panic c) (Act.put a d v) w->Q (.panic c) a w):
  ∀(s:List (List Nat × List Nat)) (u:Array Bool) (a:Act) (w:zw),HeadInv md l.toArray h u->S w->s.all (fun p=>p.1.all fun i=>(l.toArray[i]?).isSome)=true->s.all (fun p=>(pick l p.1).all zCb)=true->
  zFw md l.toArray g h s u=true->zQ P l Q S K s a w->
  zBF P md l.toArray Q S h (fun J a' w'=>Region.seqB md l.toArray g h J=true∧K a' w') (zDw s) u a w
 | [],u,a,w,inv,hS,_,_,hB,hW=>⟨hB,hW⟩
 | (idx,ms)::rest,u,a,w,inv,hS,hsome,hrd,hB,hW=>by
  simp only[List.all_cons,yD]at hsome hrd;have hp:(idx.filterMap fun i=>l.toArray[i]?)=pick l idx:=by simp[pick]
  exact zCR hS V hs hc hn hQ (Ka:=fun a'=>zAN P l.toArray Q S (zQ P l Q S K rest) ms a' w)
   (fun J a' Z a6 a1=>zDi (fun O a2 w2 a0 a3 a4 a5=>zBe V hs hc hn hQ rest O a2 w2 a0 a3 hsome.2 hrd.2 a4 a5) ms J a' w Z hS a6 a1)
   idx u a hsome.1 inv hB (by rw[hp];exact zAO _ _ hrd.1 hW)
theorem zEk(s:List (List Nat × List Nat))(h:Nat)(hB:zN4 md l.toArray s h=true)(hr:s.all (fun p=>(pick l p.1).all zCb)=true)
  (hQ:∀c a d v w,Q (.panic c) (Act.put a d v) w->Q (.panic c) a w)(hS:S w)
  (hh:zQ P l Q S (fun a2 w2=>wpList P l.toArray Q (l.drop h) a2 w2) s a w):
  wpAny P md l.toArray Q l.toArray.size (Array.replicate l.toArray.size false) a w:=by
 simp only[zN4,yD,yL]at hB;obtain⟨⟨⟨⟨⟨⟨Z,hn⟩,O⟩,hs⟩,hc⟩,J⟩,a1⟩:=hB;have a0:(l.drop h).length=l.toArray.size - h:=zs;have V:HeadInv md l.toArray h (Array.replicate l.toArray.size false):=
  ⟨zs,fun j oj _ hl=>(by rw[getD_replicate_false]at hl;cases hl),fun t _ ht=>getD_in (by simpa using ht) (getD_replicate_false _ _)⟩
 have H:=zBe (g:=l.toArray.size - h) (K:=fun a2 w2=>wpList P l.toArray Q (l.drop h) a2 w2) Z hs hc hn hQ s _ a w V hS J hr a1 hh;have:=zAu (g:=l.toArray.size - h) (fun u a' w' hL=>by have:=wpAny_of_seq (md:=md) (Q':=Q) (l.drop h) h u a' w' (fun j=>by simp[yAv]) (by rw[a0];exact hL.1) hL.2;rwa[a0]at this) _ _ _ _ H;rw[O,show h+(l.toArray.size - h)=l.toArray.size by omega]at this;exact this
theorem zI{Z:Nat}(s:List (List Nat × List Nat))(h:Nat)(S:World->Prop)(hm:P.follows .mixedOrders=true)(u:zN4 .any l.toArray s h=true)(hr:s.all (fun p=>(pick l p.1).all zCb)=true)
  (O:∀c a d v w,Q (.panic c) (Act.put a d v) w->Q (.panic c) a w)(V:S w.drew)
  (J:zQ P l Q S (fun a2 w2=>wpList P l.toArray Q (l.drop h) a2 w2) s a w.drew):
  (Code.region Z l.toArray true).wp P Q a w:=
 wp_region_any hm (zEk s h u hr O V J)
def zRx(md:Region.Mode)(J:Array Oper)(h O V:Nat)(Z s2:List (List Nat × List Nat))(u:Array Bool):Bool:=
 decide (Region.ready md J u=[O,V])&&decide (O<h)&&decide (V<h)&&zFw md J (J.size - h) h Z (u.setIfInBounds O true)&&zFw md J (J.size - h) h s2 (u.setIfInBounds V true)
def zRB(md:Region.Mode)(u:Array Oper)(J:List Nat)(Z m2:Nat)(O V:List (List Nat × List Nat))(h:Nat):Bool:=
 Region.noSelect u&&decide (h<u.size)&&decide (J.length+(zDw O+1)=h)&&decide (zDw V=zDw O)&&Region.sinkB md u h&&Region.chainB md u h&&(J.all fun i=>(u[i]?).isSome)&&O.all (fun p=>p.1.all fun i=>(u[i]?).isSome)&&V.all (fun p=>p.1.all fun i=>(u[i]?).isSome)&&
  zI5 md u h (zRx md u h Z m2 O V) J (Array.replicate u.size false)
theorem zDx{id:Nat}(J:List Nat)(m1 m2:Nat)(s1 s2:List (List Nat × List Nat))(h:Nat)(S:World->Prop)(hm:P.follows .mixedOrders=true)(hB:zRB .any l.toArray J m1 m2 s1 s2 h=true)
  (hr:((pick l J).all zCb&&s1.all (fun p=>(pick l p.1).all zCb)&&s2.all (fun p=>(pick l p.1).all zCb))=true)
  (hQ:∀c a d v w,Q (.panic c) (Act.put a d v) w->Q (.panic c) a w)(hS:S w.drew)
  (hh:wpQuiet P l.toArray S (fun a'=>wpOp P l.toArray Q m1 (fun u w2=>S w2∧zQ P l Q S (fun u w2=>wpList P l.toArray Q (l.drop h) u w2) s1 u w2) a' w.drew∧
   wpOp P l.toArray Q m2 (fun u w2=>S w2∧zQ P l Q S (fun u w2=>wpList P l.toArray Q (l.drop h) u w2) s2 u w2) a' w.drew) (pick l J) a):
  (Code.region id l.toArray true).wp P Q a w:=by
 refine wp_region_any hm ?_;simp only[zRB,yD,yL]at hB hr;obtain⟨⟨⟨⟨⟨⟨⟨⟨⟨O,hn⟩,a4⟩,a1⟩,hs⟩,hc⟩,a0⟩,b5⟩,a6⟩,b4⟩:=hB;have b1:(l.drop h).length=l.toArray.size - h:=zs;have a7:HeadInv .any l.toArray h (Array.replicate l.toArray.size false):=
  ⟨zs,fun j oj _ hl=>(by rw[getD_replicate_false]at hl;cases hl),fun t _ ht=>getD_in (by simpa using ht) (getD_replicate_false _ _)⟩
 have hp:(J.filterMap fun i=>l.toArray[i]?)=pick l J:=(by simp[pick])
 have H:=zCR (md:=.any) (g:=l.toArray.size - h) (f:=zDw s1+1) (K:=fun u w2=>wpList P l.toArray Q (l.drop h) u w2) (T:=zRx .any l.toArray h m1 m2 s1 s2) hS O hs hc hn hQ
  (Ka:=fun a'=>wpOp P l.toArray Q m1 (fun u w2=>S w2∧zQ P l Q S (fun u w2=>wpList P l.toArray Q (l.drop h) u w2) s1 u w2) a' w.drew∧
   wpOp P l.toArray Q m2 (fun u w2=>S w2∧zQ P l Q S (fun u w2=>wpList P l.toArray Q (l.drop h) u w2) s2 u w2) a' w.drew)
  (fun a8 a' Z b2 a3=>by
   simp only[zRx,yD,yL]at b2;obtain⟨⟨⟨⟨b3,b0⟩,a5⟩,b6⟩,b7⟩:=b2;refine⟨by rw[b3];simp,fun i hi=>?_⟩;have a9:=hi;rw[b3]at hi;rcases List.mem_cons.1 hi with rfl | hi2
   ·exact⟨b0,wpOp_mono (fun u w2 h2=>⟨h2.1,zBe O hs hc hn hQ s1 _ u w2 (Z.set a9 b0) h2.1 b5 hr.1.2 b6 h2.2⟩) a3.1⟩
   ·obtain rfl:i=m2:=(by simpa using hi2);exact⟨a5,wpOp_mono (fun u w2 h2=>⟨h2.1,a1▸zBe O hs hc hn hQ s2 _ u w2 (Z.set a9 a5) h2.1 a6 hr.2 b7 h2.2⟩) a3.2⟩)
  J _ a a0 a7 b4 (by rw[hp];exact zAO _ _ hr.1.1 hh)
 have:=zAu (g:=l.toArray.size - h) (fun V a' w' hL=>by have:=wpAny_of_seq (md:=.any) (Q':=Q) (l.drop h) h V a' w' (fun j=>by simp[yAv]) (by rw[b1];exact hL.1) hL.2;rwa[b1]at this) _ _ _ _ H;rw[a4,show h+(l.toArray.size - h)=l.toArray.size by omega]at this;exact this
theorem zB{K:Act->World->Prop}(J:ops[i]? =some o)(u:Region.wanted o (yielded ops a.tmps)=true)(h:wpList P ops (Exit.then K Q) [o] a w):wpOp P ops Q i K a w:=by
 unfold wpList at h;rw[yq u]at h;unfold wpOp;simp only[J,u,yBa];rcases h with h | h;{exact .inl h};{exact .inr h}
end
theorem zH(G:Nat->Prop)(W:zw):∃(ι:Type) (_:Nonempty ι) (f:ι->World),(∀n,Upd G W (f n))∧Hid (∀V,Upd G W V->∃n,V=f n):=
 ⟨{V:World // Upd G W V},⟨⟨W,Upd.refl _ _⟩⟩,fun n=>n.1,fun n=>n.2,zz fun V u=>⟨⟨V,u⟩,rfl⟩⟩
structure Fr (u:Array Oper) (vals:Nat->Value) (L:Nat->Bool) (J a:Act):Prop where
 defers:a.defers=J.defers
 size:a.tmps.size=J.tmps.size
 hit:∀i o t,u[i]? =some o->o.dst=some t->L i=true->t<J.tmps.size->a.tmps[t]? =some (vals i)
 miss:∀t,(∀i o,u[i]? =some o->L i=true->o.dst≠some t)->a.tmps[t]? =J.tmps[t]?
def zBw(i:Nat)(L:Nat->Bool):Nat->Bool:=fun j=>j==i||L j
def zN8(u:Array Oper):Bool:=
 (List.range u.size).all fun i=>(List.range u.size).all fun j=>decide (i=j)||(match u[i]?,u[j]? with | some o,some o'=>(match o.dst with | none=>true | some d=>o'.dst !=some d) | _,_=>true)
def zR1(u:Array Oper):Bool:=
 (List.range u.size).all fun i=>match u[i]? with
  | none=>true
  | some o=>(o.looksAt u).all (fun t=>(List.range u.size).all fun j=>match u[j]? with
    | none=>true
    | some o'=>o'.dst !=some t||(decide (j<i)&&o.after.any fun e=>Region.binds .any e&&e.on==j)||(decide (i<j)&&o'.after.any fun e=>Region.binds .any e&&e.on==i))&&o.after.all (fun e=> !Region.binds .any e||decide (e.on<i))
def zTY(u:Array Oper):Bool:=Region.noSelect u&&zN8 u&&zR1 u
section
variable {P:Program} {ops:Array Oper} {vals:Nat->Value} {S:(Nat->Bool)->World->Prop}
theorem zN9(h:zN8 ops=true){i j:Nat}{o o':Oper}(V:ops[i]? =some o)(Z:ops[j]? =some o')(J:i≠j){d:Tmp}(hd:o.dst=some d):o'.dst≠some d:=by
 have O:=(Array.getElem?_eq_some_iff.1 V).1;have u:=(Array.getElem?_eq_some_iff.1 Z).1;have h1:=List.all_eq_true.1 (List.all_eq_true.1 h i (List.mem_range.2 O)) j (List.mem_range.2 u);simpa[J,V,Z,hd]using h1
theorem zI6(h:zR1 ops=true)(hi:ops[i]? =some o):
  (∀t∈o.looksAt ops,∀j V,ops[j]? =some V->V.dst=some t->(j<i∧∃e∈o.after,Region.binds .any e=true∧e.on=j)∨(i<j∧∃e∈V.after,Region.binds .any e=true∧e.on=i))∧(∀e∈o.after,Region.binds .any e=true->e.on<i):=by
 have a1:=(Array.getElem?_eq_some_iff.1 hi).1;have Z:=List.all_eq_true.1 h i (List.mem_range.2 a1);simp only[hi,yD]at Z;refine⟨fun t ht j V hj hd=>?_,fun e O hb=>?_⟩;{have a0:=(Array.getElem?_eq_some_iff.1 hj).1;have u:=List.all_eq_true.1 (List.all_eq_true.1 Z.1 t ht) j (List.mem_range.2 a0);simp only[hj,hd,bne_self_eq_false,Bool.false_or,Bool.or_eq_true,yD,yL]at u;rcases u with u | u;{obtain⟨e,O,J⟩:=Array.any_eq_true'.1 u.2;simp only[yD,beq_iff_eq]at J;exact .inl ⟨u.1,e,O,J⟩};{obtain⟨e,O,J⟩:=Array.any_eq_true'.1 u.2;simp only[yD,beq_iff_eq]at J;exact .inr ⟨u.1,e,O,J⟩}};{have u:=Array.all_eq_true'.1 Z.2 e O;simpa[hb]using u}
theorem Fr.refl(a:Act):Fr ops vals (fun _=>false) a a:=⟨rfl,rfl,fun _ _ _ _ _ h _=>(nomatch h),fun _ _=>rfl⟩
theorem Fr.congr{L L':Nat->Bool}{V a:Act}(h:Fr ops vals L V a)(e:∀i,i<ops.size->L i=L' i):Fr ops vals L' V a:=
 ⟨h.defers,h.size,fun i o t u Z J O=>h.hit i o t u Z (by rw[e i (Array.getElem?_eq_some_iff.1 u).1];exact J) O,
  fun t O=>h.miss t fun i o u J=>O i o u (by rw[<-e i (Array.getElem?_eq_some_iff.1 u).1];exact J)⟩
theorem Fr.put{a0 a:Act}(hd:zN8 ops=true)(h:Fr ops vals L a0 a)(hi:ops[i]? =some o):Fr ops vals (zBw i L) a0 (a.put o.dst (vals i)):=by
 (cases J:o.dst with |none=>(refine⟨h.defers,h.size,fun j oj t V u hl Z=>?_,fun t Z=>h.miss t fun j oj V hl=>Z j oj V (by simp[zBw,hl])⟩;by_cases O:j=i;{subst O;rw[hi]at V;cases V;rw[J]at u;cases u};{exact h.hit j oj t V u (by simpa[zBw,O]using hl) Z})|some d=>(refine⟨h.defers,by simp[Act.put,h.size],fun j oj t V u hl Z=>?_,fun t Z=>?_⟩;{simp only[Act.put,yAN];by_cases O:j=i;{subst O;rw[hi]at V;cases V;rw[J]at u;cases u;rw[yq rfl,yq (by rw[h.size];exact Z)]};{have a1:d≠t:=fun e=>zN9 hd hi V (yBo O) J (e▸u);rw[yl a1];exact h.hit j oj t V u (by simpa[zBw,O]using hl) Z}};{have a1:d≠t:=fun e=>Z i o hi (by simp[zBw]) (e▸J);simp only[Act.put,yAN,yl a1];exact h.miss t fun j oj V hl=>Z j oj V (by simp[zBw,hl])}))
theorem Fr.j8{L L':Nat->Bool}{a0 a a':Act}(h:Fr ops vals L a0 a)(h':Fr ops vals L' a0 a'){t:Tmp}(e:∀j o,ops[j]? =some o->o.dst=some t->L j=L' j):a.tmps[t]? =a'.tmps[t]? :=by
 by_cases O:∃j o,ops[j]? =some o∧o.dst=some t∧L j=true;{obtain⟨j,o,O,J,V⟩:=O;by_cases Z:t<a0.tmps.size;{rw[h.hit j o t O J V Z,h'.hit j o t O J (by rw[<-e j o O J];exact V) Z]};{rw[Array.getElem?_eq_none (by rw[h.size];exact Nat.le_of_not_lt Z),Array.getElem?_eq_none (by rw[h'.size];exact Nat.le_of_not_lt Z)]}};{rw[h.miss t fun j o u V J=>O ⟨j,o,u,J,V⟩,h'.miss t fun j o u V J=>O ⟨j,o,u,J,by rw[e j o u J];exact V⟩]}
theorem Fr.unique{J a u:Act}(h:Fr ops vals L J a)(h':Fr ops vals L J u):a=u:=by
 obtain⟨t1,d1⟩:=a;obtain⟨V,O⟩:=u;have hd:d1=O:=h.defers.trans h'.defers.symm;have Z:t1=V:=Array.ext_getElem? fun t=>h.j8 (t:=t) h' fun _ _ _ _=>rfl;rw[hd,Z]
theorem zGd{v:Value}{a V:Act}{R:World->Prop}{K:Act->World->Prop}(hi:ops[i]? =some o)(a2:∀cs b,o.op≠.select cs b)
  (a3:V.tmps.size=a.tmps.size)(O:∀t∈o.looksAt ops,a.tmps[t]? =V.tmps[t]?)
  (h:wpOp P ops (fun _ _ _=>False) i (fun b w'=>b=a.put o.dst v∧R w') a w)(hK:∀w',R w'->K (V.put o.dst v) w'):wpOp P ops Q i K V w:=by
 have he:execOp V.eval o=execOp a.eval o:=execOp_congr o a2 fun x hx=>(by (cases x with |tmp t=>(have:=O t (yBH _ (List.mem_filterMap.2 ⟨.tmp t,by simpa using hx,rfl⟩));simp only[Act.eval,Array.getD_eq_getD_getElem?,this])|_=>(rfl)));have hw:Region.wanted o (yielded ops V.tmps)=Region.wanted o (yielded ops a.tmps):=(by unfold Region.wanted;(cases hg:o.guard with |none=>(rfl)|some gw=>(obtain⟨g,a4⟩:=gw;have hy:yielded ops V.tmps g=yielded ops a.tmps g:=(by unfold yielded;(cases ht:(ops[g]?).bind (·.dst)with |none=>(rfl)|some t=>(have:=O t (List.mem_append_right _ (by simp[hg,ht]));simp[this])));simp only[hy])));have J:∀u,a.put o.dst u=a.put o.dst v->V.put o.dst u=V.put o.dst v:=fun u hu=>(by (cases hd:o.dst with |none=>(rfl)|some d=>(rw[hd]at hu;simp only[Act.put,Act.mk.injEq,and_true]at hu ⊢;by_cases Z:d<a.tmps.size;{have h1:(a.tmps.setIfInBounds d u)[d]? =(a.tmps.setIfInBounds d v)[d]? :=(by rw[hu]);simp[yAN,Z]at h1;rw[h1]};{rw[Array.setIfInBounds_eq_of_size_le (by rw[a3];exact Nat.le_of_not_lt Z),Array.setIfInBounds_eq_of_size_le (by rw[a3];exact Nat.le_of_not_lt Z)]})));unfold wpOp at *;simp only[hi]at *;rw[hw];by_cases a1:Region.wanted o (yielded ops a.tmps)=true;{rw[yq a1]at h ⊢;rcases h with h | ⟨_,_,_,h⟩;{refine .inl ?_;unfold Oper.wp at *;rw[he];generalize(execOp a.eval o).run P w=r at *;(cases r with |halt x w'=>(cases x<;>first | exact h | exact h.elim)|ok n w'=>((cases n with |value u=>(rw[Oper.upon_value]at h ⊢;have:=hK w' h.2;rwa[<-J u h.1]at this)|skip=>(rw[Oper.upon_skip]at h ⊢;have:=hK w' h.2;rwa[<-J undef h.1]at this)|defer d=>(rw[Oper.upon_defer]at h;have h1:=yBx (fun a=>a.defers.length) h.1;cases hd:o.dst<;>simp[hd,Act.put]at h1)|enter f args=>(rw[Oper.upon_enter]at h ⊢;refine Calls.mono h fun e a0 hh=>?_;(cases e with |returned u=>(have:=hK a0 hh.2;rwa[<-J u hh.1]at this)|panicked c=>(exact hh.elim)|outgrown=>(obtain⟨_,_,h⟩:=hh;exact h.elim)))|row row args=>(rw[Oper.upon_row]at h ⊢;refine Rows.mono h fun v a0 hh=>?_;have:=hK a0 hh.2;rwa[<-J v hh.1]at this)|_=>(exact h.elim))))};{exact h.elim}};{rw[yl a1]at h ⊢;obtain⟨h1,h2⟩:=h;have:=hK w h2;rw[<-J undef h1]at this;exact this}
def zH1(P:Program)(u:Array Oper)(S:(Nat->Bool)->World->Prop)(i:Nat)(o:Oper)(v:Value)(a:Act):Prop:=
 ∀L w,L i=false->(∀e∈o.after,Region.binds .any e=true->L e.on=true)->S L w->wpOp P u (fun _ _ _=>False) i (fun J w'=>J=a.put o.dst v∧S (zBw i L) w') a w
def zI7(P:Program)(u:Array Oper)(S:(Nat->Bool)->World->Prop)(K:Act->Prop):Nat->List Oper->Act->Prop
 | _,[],a=>K a
 | i,o::rest,a=>∃v,zH1 P u S i o v a∧zI7 P u S K (i+1) rest (a.put o.dst v)
def zKM(P:Program)(u:Array Oper)(S:(Nat->Bool)->World->Prop)(K:Act->Prop):Nat->List Oper->List Value->Act->Prop
 | _,[],_,a=>K a
 | i,o::rest,v::vs,a=>zH1 P u S i o v a∧zKM P u S K (i+1) rest vs (a.put o.dst v)
 | _,_::_,[],_=>False
theorem zLP:∀(l:List Oper) (i:Nat) (a:Act),zI7 P ops S K i l a->∃u:List Value,zKM P ops S K i l u a
 | [],_,_,h=>⟨[],h⟩
 | o::l,i,a,h=>by
  obtain⟨v,J,O⟩:=h;obtain⟨u,V⟩:=zLP l (i+1) _ O;exact⟨v::u,J,V⟩
theorem zRE(hd:zN8 ops=true){Z:Act}:∀(l:List Oper) (J:List Value) (i:Nat) (a:Act),(∀j,j<l.length->l[j]? =ops[i+j]?)->i+l.length=ops.size->(∀j,j<l.length->vals (i+j)=J.getD j undef)->
  Fr ops vals (fun j=>decide (j<i)) Z a->zKM P ops S K i l J a->
  (∀j o,i≤j->ops[j]? =some o->∃b,Fr ops vals (fun k=>decide (k<j)) Z b∧zH1 P ops S j o (vals j) b)∧∃b,Fr ops vals (fun k=>decide (k<ops.size)) Z b∧K b
 | [],J,i,a,hl,hn,hv,hf,h=>by
  simp at hn;refine⟨fun j o V ho=>?_,a,by rw[<-hn];exact hf,h⟩;have:=(Array.getElem?_eq_some_iff.1 ho).1;omega
 | o::l,[],i,a,hl,hn,hv,hf,h=>h.elim
 | o::l,v::J,i,a,hl,hn,hv,hf,h=>by
  obtain⟨h1,h2⟩:=h;have ho:ops[i]? =some o:=by have:=hl 0 zs;simpa using this.symm
  have O:vals i=v:=by have:=hv 0 zs;simpa using this
  have a1:Fr ops vals (fun j=>decide (j<i+1)) Z (a.put o.dst v):=by
   rw[<-O];refine(hf.put hd ho).congr fun j V=>?_;simp only[zBw];by_cases e:j=i
   ·subst e;simp
   ·have:(decide (j<i))=decide (j<i+1):=(by congr 1;apply propext;omega);simp[e,this]
  obtain⟨g1,g2⟩:=zRE hd l J (i+1) _ (fun j V=>by have:=hl (j+1) (by simp;omega);rw[show i+1+j=i+(j+1)by omega];simpa using this) (by simp at hn;omega)
   (fun j V=>by have:=hv (j+1) (by simp;omega);rw[show i+1+j=i+(j+1)by omega];simpa using this) a1 h2
  refine⟨fun j oj V u=>?_,g2⟩;by_cases e:j=i
  ·subst e;rw[ho]at u;cases u;exact⟨a,hf,by rw[O];exact h1⟩
  ·exact g1 j oj zo u
def zM1(L:Nat->Bool):Nat->Nat
 | 0=>0
 | n+1=>zM1 L n+if L n then 0 else 1
theorem zI8:∀{n:Nat},zM1 L n=0->∀i,i<n->L i=true
 | n+1,h,i,hi=>by
  simp only[zM1]at h;have O:=(Nat.add_eq_zero_iff.1 h).1;have u:L n=true:=by cases J:L n<;>simp[J]at h ⊢
  by_cases e:i=n
  ·rw[e];exact u
  ·exact zI8 O i zo
theorem zOA(L:Nat->Bool):∀n:Nat,zM1 L n≤n
 | 0=>yb _
 | n+1=>by have:=zOA L n;simp only[zM1];split<;>omega
theorem zHC{L L':Nat->Bool}:∀{n:Nat},(∀i,i<n->L i=L' i)->zM1 L n=zM1 L' n
 | 0,_=>rfl
 | n+1,h=>by simp only[zM1];rw[zHC fun i u=>h i zo,h n zo]
theorem zLQ(h:L i=false):∀{n:Nat},i<n->zM1 (zBw i L) n+1=zM1 L n
 | n+1,hi=>by
  simp only[zM1];by_cases e:i=n
  ·subst e;have:=zHC (L:=zBw i L) (L':=L) (n:=i) fun j J=>(by simp[zBw,show j≠i by omega]);rw[this];simp[zBw,h]
  ·have:=zLQ h (n:=n) zo;have u:zBw i L n=L n:=(by simp[zBw,yBo e]);rw[u];omega
theorem zMS(hb:zR1 ops=true){u:Array Bool}(Z:u.size=ops.size)(h:Region.ready .any ops u=[]):∀i,i<ops.size->u.getD i false=true:=by
 intro i;(induction i using Nat.strongRecOn with |_ i ih=>(intro V;(cases hl:u.getD i false with |true=>(rfl)|false=>(have:=mem_ready.2 ⟨getD_in zo hl,ops[i],yBE V,fun e he O=>by have J:=(zI6 hb (yBE V)).2 e he O;exact ih e.on J zo⟩;rw[h]at this;cases this))))
theorem zOB{a0:Act}{K:Act->Prop}(hB:zTY ops=true)(a9:∀j o,ops[j]? =some o->∃b,Fr ops vals (fun k=>decide (k<j)) a0 b∧zH1 P ops S j o (vals j) b)
  {aE:Act}(hE:Fr ops vals (fun k=>decide (k<ops.size)) a0 aE)(hQ:∀L w,(∀i,i<ops.size->L i=true)->S L w->Q .normal aE w):
  ∀(f:Nat) (u:Array Bool) (a:Act) (w:zw),(∀j o,ops[j]? =some o->u.getD j false=true->∀e∈o.after,Region.binds .any e=true->u.getD e.on false=true)->u.size=ops.size->zM1 (fun j=>u.getD j false) ops.size≤f->Fr ops vals (fun j=>u.getD j false) a0 a->S (fun j=>u.getD j false) w->
  wpAny P .any ops Q f u a w:=by
 simp only[zTY,yD]at hB;obtain⟨⟨b1,hd⟩,b0⟩:=hB;have a4:∀(u:Array Bool) (a:Act) (w:zw),u.size=ops.size->Fr ops vals (fun j=>u.getD j false) a0 a->S (fun j=>u.getD j false) w->(∀i,i<ops.size->u.getD i false=true)->Q .normal a w:=(by intro u a w a1 hf hS J;have:=Fr.unique (hf.congr fun i hi=>(J i hi).trans (yG hi).symm) hE;rw[this];exact hQ _ w J hS);intro f
 induction f with
 | zero=>
  intro u a w a7 a1 hc hf hS;have J:=zI8 (Nat.le_zero.1 hc);refine⟨?_,a4 u a w a1 hf hS J⟩;apply List.eq_nil_iff_forall_not_mem.2;intro i hi;obtain⟨h1,o,ho,_⟩:=mem_ready.1 hi;have a8:=(Array.getElem?_eq_some_iff.1 ho).1;have h2:=J i a8;simp only[Array.getD_eq_getD_getElem?,yBE (show i<u.size by omega),Option.getD_some]at h1 h2;rw[h1]at h2;cases h2
 | succ f ih=>
  intro u a w a7 a1 hc hf hS;refine⟨fun h=>a4 u a w a1 hf hS (zMS b0 a1 h),fun i hi=>?_⟩;obtain⟨h1,o,ho,a2⟩:=mem_ready.1 hi;have a8:=(Array.getElem?_eq_some_iff.1 ho).1;have a6:u.getD i false=false:=(by simp only[Array.getD_eq_getD_getElem?,yBE (show i<u.size by omega),Option.getD_some]at h1 ⊢;exact h1)
  obtain⟨b,hb,b4⟩:=a9 i o ho;have O:(fun j=>(u.setIfInBounds i true).getD j false)=zBw i fun j=>u.getD j false:=by
   funext j
   simp only[zBw,Array.getD_eq_getD_getElem?,yAN];by_cases e:j=i;{subst e;simp[show j<u.size by omega]};{simp[e,yBo e]}
  obtain⟨b3,b7⟩:=zI6 b0 ho;refine zGd ho (Region.noSelect_spec b1 i o · · ho) (hf.size.trans hb.size.symm) (fun t ht=>hb.j8 hf fun j oj V b5=>?_) (b4 _ w a6 a2 hS) fun w' b6=>ih _ _ w' ?_ (by simpa using a1) ?_ ?_ ?_;{rcases b3 t ht j oj V b5 with⟨g1,e,he,Z,a5⟩ | ⟨g1,e,he,Z,a5⟩;{have:=a2 e he Z;rw[a5]at this;rw[yG g1];exact this.symm};{have:u.getD j false=false:=(by (cases a3:u.getD j false with |false=>(rfl)|true=>(have h4:=a7 j oj V a3 e he Z;rw[a5,a6]at h4;cases h4)));rw[yA zo];exact this.symm}};{intro j oj V a3 e he Z;have e1:=congrFun O j;have e2:=congrFun O e.on;rw[e1]at a3;rw[e2];by_cases b2:j=i;{subst b2;rw[ho]at V;cases V;have:=a2 e he Z;simp[zBw,this]};{have h4:u.getD j false=true:=(by simpa[zBw,b2]using a3);have h5:=a7 j oj V h4 e he Z;simp[zBw,h5]}};{rw[O];have:=zLQ (L:=fun j=>u.getD j false) a6 a8;omega};{rw[O];exact hf.put hd ho};{rw[O];exact b6}
theorem zH2{id:Nat}(S:(Nat->Bool)->World->Prop)(hm:P.follows .mixedOrders=true)(u:zTY l.toArray=true)(hS:S (fun _=>false) w.drew)
  (h:zI7 P l.toArray S (fun Z=>∀L w',(∀i,i<l.length->L i=true)->S L w'->Q .normal Z w') 0 l a):(Code.region id l.toArray true).wp P Q a w:=by
 refine wp_region_any hm ?_;obtain⟨O,hv⟩:=zLP l 0 a h;have hd:zN8 l.toArray=true:=(by simp only[zTY,yD]at u;exact u.1.2);obtain⟨h1,b,h2,h3⟩:=zRE (vals:=fun j=>O.getD j undef) hd l O 0 a (fun j hj=>zs) zs (fun j hj=>zs) ((Fr.refl a).congr fun i _=>zs) hv;refine zOB (K:=fun _=>True) u (fun j o ho=>h1 j o (yAO _) ho) h2 (fun L w' hL J=>h3 L w' (fun i V=>hL i (by simpa using V)) J) _ _ _ _ (fun j o _ h=>by rw[getD_replicate_false]at h;cases h) zs ?_ ((Fr.refl a).congr fun i V=>?_) ?_;{have:=zOA (fun j=>(Array.replicate l.toArray.size false).getD j false) l.toArray.size;exact this};{show false=(Array.replicate l.toArray.size false).getD i false;rw[getD_replicate_false]};{have:(fun j=>(Array.replicate l.toArray.size false).getD j false)=fun _=>false:=funext fun j=>getD_replicate_false _ _;rw[this];exact hS}
theorem zA4{i j:Nat}(h:i≠j)(L:Nat->Bool):zBw i L j=L j:=by simp[zBw,yBo h]
theorem zCm(i:Nat)(L:Nat->Bool):zBw i L i=true:=by simp[zBw]
def wpI(P:Program)(l:List Oper)(S:(Nat->Bool)->World->Prop)(K:Act->Prop)(i:Nat)(a:Act):Prop:=zI7 P l.toArray S K i (l.drop i) a
theorem zAM{u:Nat}(S:(Nat->Bool)->World->Prop)(Z:P.follows .mixedOrders=true)(J:zTY l.toArray=true)(V:S (fun _=>false) w.drew)
  (h:wpI P l S (fun O=>∀L w',(∀i,i<l.length->L i=true)->S L w'->Q .normal O w') 0 a):(Code.region u l.toArray true).wp P Q a w:=zH2 S Z J V h
theorem zBZ(u:l.length≤i)(h:K a):wpI P l S K i a:=by unfold wpI;rw[List.drop_eq_nil_of_le u];exact h
theorem zF2(hC:∀L w,S L w->C w){Q:Act->Prop}{l2:List Oper}:∀(J:List Oper) (i:Nat) (a:Act),(∀j,j<J.length->J[j]? =ops[i+j]?)->J.all zCb=true->(∀j,i≤j->j<i+J.length->∀L w,S L w->S (zBw j L) w)->
  wpQuiet P ops C (fun a'=>zI7 P ops S Q (i+J.length) l2 a') J a->zI7 P ops S Q i (J++l2) a
 | [],_,_,_,_,_,h=>h
 | o::J,i,a,hl,hr,hS,h=>by
  simp only[List.all_cons,yD]at hr;have ho:ops[i]? =some o:=by have:=hl 0 zs;simpa using this.symm
  have O:∀v,wpQuiet P ops C (fun a'=>zI7 P ops S Q (i+(o::J).length) l2 a') J (a.put o.dst v)->zI7 P ops S Q (i+1) (J++l2) (a.put o.dst v):=fun v h2=>
   zF2 hC J (i+1) _ (fun j hj=>by have:=hl (j+1) (by simp;omega);rw[show i+1+j=i+(j+1)by omega];simpa using this) hr.2 (fun j h1 h2=>hS j zo (by simp;omega)) (by rw[show i+1+J.length=i+(o::J).length by simp;omega];exact h2)
  unfold wpQuiet at h;by_cases hw:Region.wanted o (yielded ops a.tmps)=true
  ·rw[yq hw]at h;obtain⟨v,h1,h2⟩:=h;refine⟨v,fun L w hL Z V=>?_,O v h2⟩;have h3:=h1 w (hC L w V);unfold wpOp;simp only[ho,hw,yBa];refine .inl ?_;unfold Oper.wp;unfold Oper.quietAt at h3;rcases zHx (P:=P) hr.1 a.eval w with⟨u,w',e⟩ | ⟨x,w',e⟩
   ·rw[e]at h3 ⊢;obtain⟨rfl,rfl⟩:=h3;exact⟨rfl,hS i (yb _) zs L _ V⟩
   ·rw[e]at h3;exact h3.elim
  ·rw[yl hw]at h;refine⟨undef,fun L w hL Z V=>?_,O undef h⟩;unfold wpOp;simp only[ho];rw[yl hw];exact⟨yAf,hS i (yb _) zs L _ V⟩
theorem zR(k:Nat)(hk:i+k≤l.length)(V:((l.drop i).take k).all zCb=true)(hC:∀L w,S L w->C w)(Z:∀j,i≤j->j<i+k->∀L w,S L w->S (zBw j L) w)
  (h:wpQuiet P l.toArray C (fun O=>wpI P l S K (i+k) O) ((l.drop i).take k) a):wpI P l S K i a:=by
 unfold wpI;rw[<-yBB k (l.drop i)];have u:((l.drop i).take k).length=k:=(by simp;omega);refine zF2 hC _ i a (fun j J=>by rw[u]at J;simp[yAu,J,yAv]) V (by rw[u];exact Z) ?_;rw[u,List.drop_drop];exact h
theorem zAm(Z:l[i]? =some o)(hg:o.guard=none)(v:Value)
  (h:∀L w,L i=false->(∀e∈o.after,Region.binds .any e=true->L e.on=true)->S L w->wpList P l.toArray (Exit.then (fun a' w'=>a'=a.put o.dst v∧S (zBw i L) w') (fun _ _ _=>False)) [o] a w)
  (hk:wpI P l S K (i+1) (a.put o.dst v)):wpI P l S K i a:=by
 obtain⟨O,J⟩:=List.getElem?_eq_some_iff.1 Z;unfold wpI;rw[yBg O,J];exact⟨v,fun L w hL u V=>zS (by simpa using Z) hg (h L w hL u V),hk⟩
theorem zH3(Z:l[i]? =some o)(hw:Region.wanted o (yielded l.toArray a.tmps)=true)(v:Value)
  (h:∀L w,L i=false->(∀e∈o.after,Region.binds .any e=true->L e.on=true)->S L w->wpList P l.toArray (Exit.then (fun a' w'=>a'=a.put o.dst v∧S (zBw i L) w') (fun _ _ _=>False)) [o] a w)
  (hk:wpI P l S K (i+1) (a.put o.dst v)):wpI P l S K i a:=by
 obtain⟨O,J⟩:=List.getElem?_eq_some_iff.1 Z;unfold wpI;rw[yBg O,J];exact⟨v,fun L w hL u V=>zB (by simpa using Z) hw (h L w hL u V),hk⟩
theorem zP8(Z:l[i]? =some o)(hw:Region.wanted o (yielded l.toArray a.tmps)=false)
  (h:∀L w,S L w->S (zBw i L) w)(hk:wpI P l S K (i+1) (a.put o.dst undef)):wpI P l S K i a:=by
 obtain⟨J,u⟩:=List.getElem?_eq_some_iff.1 Z;unfold wpI;rw[yBg J,u];refine⟨undef,fun L w hL V O=>?_,hk⟩;unfold wpOp;simp only[show l.toArray[i]? =some o by simpa using Z];rw[yl (by simp[hw])];exact⟨yAf,h L w O⟩
end
structure Drv where
 lost:Bool
 blk:Nat->Nat->UInt8
 bad:Nat->Bool
 reads:Int
structure Arr where
 n:Nat
 m:Nat
 drv:Nat->Drv
 wait:Int
structure zAK where
 ab:Nat
 db:Nat
 dc:Nat
 bk:Nat->Nat
 bd:Nat->Nat
def zAK.dv(l:zAK)(n:Nat):Value:=if n=0 then .slice none 0 0 else .slice l.db n l.dc
theorem zAK.jf(l:zAK)(n:Nat):∃a c,l.dv n=.slice a n c:=by
 unfold zAK.dv;split;{rename_i h;subst h;exact⟨_,_,rfl⟩};{exact⟨_,_,rfl⟩}
def zC0(l:zAK)(A:Arr)(d j:Nat):Value:=
 if j=0 then .bool (A.drv d).lost else if j=1 then .slice (zp (l.bk d)) A.m A.m else if j=2 then .slice (zp (l.bd d)) A.m A.m else I (A.drv d).reads
def zAK.own(l:zAK)(n:Nat)(b:Nat):Prop:=b=l.ab∨(b=l.db∧0<n)∨∃d,d<n∧(b=l.bk d∨b=l.bd d)
structure zT (w:zw) (l:zAK) (A:Arr):Prop where
 top:Row w l.ab 0 2 (fun i=>if i=0 then l.dv A.n else I A.wait)
 drives:Row w l.db 0 (A.n*4) (elz 4 (zC0 l A))
 blk:∀d,d<A.n->Row w (l.bk d) 0 (A.m*64) (elz 64 fun b i=>B ((A.drv d).blk b i))
 bad:∀d,d<A.n->Row w (l.bd d) 0 A.m (fun b=>.bool ((A.drv d).bad b))
 kab:Kd w l.ab 87
 kdb:0<A.n->Kd w l.db 91
 kbk:∀d,d<A.n->Kd w (l.bk d) 40
 kbd:∀d,d<A.n->Kd w (l.bd d) 4
 ibk:∀d e,d<A.n->e<A.n->d≠e->l.bk d≠l.bk e
 ibd:∀d e,d<A.n->e<A.n->d≠e->l.bd d≠l.bd e
 n20:A.n≤1000
 m40:A.m≤1000000
 cap:A.n≤l.dc
 max:l.dc≤9223372036854775807
theorem zT.kept{w w':zw}{l:zAK}{A:Arr}{G:Nat->Prop}(h:zT w l A)(J:Upd G w w')(hg:∀b,l.own A.n b->b<w.heap.size->¬G b):zT w' l A:=by
 have V:=hg _ (.inl rfl) h.kab.lt;have O:=fun hn=>hg _ (.inr (.inl ⟨rfl,hn⟩)) (h.kdb hn).lt;have Z:=fun d u=>hg _ (.inr (.inr ⟨d,u,.inl rfl⟩)) (h.kbk d u).lt;have a0:=fun d u=>hg _ (.inr (.inr ⟨d,u,.inr rfl⟩)) (h.kbd d u).lt;exact⟨h.top.upd J fun _=>V,h.drives.upd J fun h0=>O zo,fun d u=>(h.blk d u).upd J fun _=>Z d u,fun d u=>(h.bad d u).upd J fun _=>a0 d u,
  h.kab.upd J V,fun hn=>(h.kdb hn).upd J (O hn),fun d u=>(h.kbk d u).upd J (Z d u),fun d u=>(h.kbd d u).upd J (a0 d u),h.ibk,h.ibd,h.n20,h.m40,h.cap,h.max⟩
theorem zT.later{w w':zw}{l:zAK}{A:Arr}(h:zT w l A)(u:Below w w w'):zT w' l A:=h.kept (Upd.of_below u) fun _ _ _=>id
theorem zT.qf{l:zAK}{A:Arr}(h:zT w l A):∀b,l.own A.n b->b<w.heap.size:=by
 rintro b (rfl | ⟨rfl,J⟩ | ⟨d,u,rfl | rfl⟩);{exact h.kab.lt};{exact(h.kdb J).lt};{exact(h.kbk d u).lt};{exact(h.kbd d u).lt}
theorem zT.fresh{w w':zw}{l:zAK}{A:Arr}{G:Nat->Prop}{B:Nat}(h:zT w l A)(u:Upd G w w')(J:∀b,l.own A.n b->b<B)(Z:∀b,G b->B≤b):zT w' l A:=
 h.kept u fun b O _ V=>by have:=J b O;have:=Z b V;omega
section
variable {w:zw} {l:zAK} {A:Arr}
theorem zT.c0(h:zT w l A):w.cell? l.ab=some (l.dv A.n):=h.top.cell 0 zo
theorem zT.c1(h:zT w l A):w.cell? (l.ab,1)=some (I A.wait):=h.top.cell 1 zo
theorem zT.ql(h:zT w l A){d j:Nat}(J:d<A.n)(u:j<4):w.cell? (l.db,d*4+j)=some (zC0 l A d j):=by
 have:=h.drives.cell (d*4+j) (zBK J u);rwa[yc,zBV _ _ _ u]at this
theorem zT.j7(h:zT w l A){d j:Nat}(u:d<A.n)(J:j<4):w.frozen? (l.db,d*4+j)=false:=by
 have:=h.drives.free (d*4+j) (zBK u J);rwa[yc]at this
theorem zT.zm(h:zT w l A){d b:Nat}(J:d<A.n)(u:b<A.m):w.cell? (l.bd d,b)=some (.bool ((A.drv d).bad b)):=by
 have:=(h.bad d J).cell b u;rwa[yc]at this
theorem zT.kf(h:zT w l A){d b:Nat}(J:d<A.n)(u:b<A.m):w.frozen? (l.bd d,b)=false:=by
 have:=(h.bad d J).free b u;rwa[yc]at this
end
def Arr.err(A:Arr)(d b:Int):Option Int:=
 if A.wait=0 then some 13 else if d<0∨(A.n:Int)≤d∨(A.drv d.toNat).lost=true then some 11 else if b<0∨(A.m:Int)≤b then some 12 else none
def zMz(w:zw)(v:Value)(k:Int):Prop:=∃e d b,v=.iface 92 (.pointer (zp e))∧Row w e 0 3 (fun i=>if i=0 then I d else if i=1 then I b else I k)∧Kd w e 94
theorem zCG(w:zw)(d b k:Int):zMz (w.alloc (.cells #[I d,I b,I k] 94)) (.iface 92 (.pointer (zp (w.heap.size)))) k:=
 ⟨w.heap.size,d,b,rfl,by
  refine⟨fun i u=>?_,fun i u=>?_⟩
  ·simp only[World.cell?,yc,Deep.blk_alloc_new]
   match i,u with | 0,_ | 1,_ | 2,_=>rfl
  ·simp only[World.frozen?,Deep.blk_alloc_new];simp,Kd.new w _ _⟩
def zSz(w:zw)(l:zAK)(A:Arr)(d b:Int)(e:Ending)(w':zw):Prop:=
 (A.err d b=none∧e=.returned (.tuple #[.pointer (some ⟨l.db,d.toNat*4,none⟩),.nilIface])∨
  ∃k v,A.err d b=some k∧e=.returned (.tuple #[.pointer none,v])∧zMz w' v k)∧Below w w w'
theorem zKs(w:zw)(l:zAK)(A:Arr)(d b:Int)(h:zT w l A):Calls prog 28 #[l.ab,I d,I b] w (zSz w l A d b):=by
 have c0:=h.c0;have c1:=h.c1;have a8:=h.n20;have a7:=h.m40;have a6:=h.cap;have a5:=h.max;have H:=zz h;clear h;by_cases O:A.wait=0;{have he:A.err d b=some 13:=(by unfold Arr.err;rw[yq O]);have J:=zz he;rw[O]at c1;clear he O;go_enter func28,ntmps28;go_wp2_with fail;go_ret2;exact⟨.inr ⟨13,_,J.o,rfl,zCG w d b 13⟩,(yh _ w).alloc (yb _) _⟩};{have a9:(A.wait==0)=false:=(by simp[O]);by_cases u:d<0∨(A.n:Int)≤d∨(A.drv d.toNat).lost=true;{have he:A.err d b=some 11:=(by unfold Arr.err;rw[yl O,yq u]);have J:=zz he;clear he O;rcases u with u | u;{have hd0:=yG u;go_enter func28,ntmps28;go_wp2_with fail;go_ret2;exact⟨.inr ⟨11,_,J.o,rfl,zCG w d b 11⟩,(yh _ w).alloc (yb _) _⟩};{by_cases hd0:d<0;{have a0:=yG hd0;go_enter func28,ntmps28;go_wp2_with fail;go_ret2;exact⟨.inr ⟨11,_,J.o,rfl,zCG w d b 11⟩,(yh _ w).alloc (yb _) _⟩};{obtain⟨d,rfl⟩:=yBq (Int.not_lt.1 hd0);clear hd0;by_cases h2:(A.n:Int)≤(d:Int);{obtain⟨a,c,hv⟩:=l.jf A.n;rw[hv]at c0;clear hv u;have a0:decide ((d:Int)<0)=false:=zs;have a1:=yG h2;go_enter func28,ntmps28;go_wp2_with fail;go_ret2;exact⟨.inr ⟨11,_,J.o,rfl,zCG w d b 11⟩,(yh _ w).alloc (yb _) _⟩};{have hl:(A.drv d).lost=true:=(by rcases u with h | h;exact absurd h h2;simpa using h);have Z:d<A.n:=zo;have c2:w.cell? (l.db,d*4)=some (.bool true):=(by have h:=H.o.ql (j:=0) Z zo;rw[yAk]at h;rw[h];simp[zC0,hl]);have hv:l.dv A.n=.slice l.db A.n l.dc:=(by unfold zAK.dv;rw[yl zo]);rw[hv]at c0;clear hv u hl;have a0:decide ((d:Int)<0)=false:=zs;have a1:=yA h2;go_enter func28,ntmps28;go_wp2_with fail;go_ret2;exact⟨.inr ⟨11,_,J.o,rfl,zCG w d b 11⟩,(yh _ w).alloc (yb _) _⟩}}}};{have hd0:¬d<0:=fun h=>u (.inl h);obtain⟨d,rfl⟩:=yBq (Int.not_lt.1 hd0);have h2:¬(A.n:Int)≤(d:Int):=fun h=>u (.inr (.inl h));have hl:(A.drv d).lost=false:=(by (cases hh:(A.drv d).lost with |false=>(rfl)|true=>(exact absurd (.inr (.inr (by simpa using hh))) u)));have Z:d<A.n:=zo;have c2:w.cell? (l.db,d*4)=some (.bool false):=(by have h:=H.o.ql (j:=0) Z zo;rw[yAk]at h;rw[h];simp[zC0,hl]);have c3:w.cell? (l.db,d*4+1)=some (.slice (zp (l.bk d)) A.m A.m):=H.o.ql (j:=1) Z zo;have hv:l.dv A.n=.slice l.db A.n l.dc:=(by unfold zAK.dv;rw[yl zo]);rw[hv]at c0;have a0:decide ((d:Int)<0)=false:=zs;have a1:=yA h2;by_cases h3:b<0∨(A.m:Int)≤b;{have J:=zy (A.err d b=some 12) (by unfold Arr.err;rw[yl O,yl u,yq h3]);clear hv u hl O hd0;by_cases V:b<0;{have a2:=yG V;go_enter func28,ntmps28;go_wp2_with fail;go_ret2;exact⟨.inr ⟨12,_,J.o,rfl,zCG w d b 12⟩,(yh _ w).alloc (yb _) _⟩};{have a2:=yA V;have a4:decide ((A.m:Int)≤b)=true:=yG zo;have a3:(A.m:Int)≤b:=zo;clear h3;go_enter func28,ntmps28;go_wp2_with fail;go_ret2;exact⟨.inr ⟨12,_,J.o,rfl,zCG w d b 12⟩,(yh _ w).alloc (yb _) _⟩}};{have J:=zy (A.err d b=none) (by unfold Arr.err;rw[yl O,yl u,yl h3]);have V:¬b<0:=fun h=>h3 (.inl h);have a3:¬(A.m:Int)≤b:=fun h=>h3 (.inr h);have a2:=yA V;have a4:=yA a3;clear hv u hl O hd0 h3;go_enter func28,ntmps28;go_wp2_with fail;go_ret2;exact⟨.inl ⟨J.o,rfl⟩,yh _ w⟩}}}
theorem zMB(w:zw)(l:zAK)(A:Arr)(h:zT w l A):Calls prog 43 #[l.ab] w fun e w'=>e=.returned (I A.n)∧w'=w:=by
 have u:=h.c0;obtain⟨a,c,e⟩:=l.jf A.n;rw[e]at u;clear h e;go_enter func43,ntmps43;go_wp2_with fail;go_ret;exact⟨rfl,rfl⟩
theorem zCZ(w:zw)(l:zAK)(A:Arr)(h:zT w l A):Calls prog 29 #[l.ab] w fun e w'=>e=.returned (I (if A.n=0 then 0 else A.m))∧w'=w:=by
 have J:=h.c0;have a1:=h.n20;have Z:=h.m40;have V:=h.cap;have O:=h.max;by_cases u:A.n=0;{rw[yq u];have e:l.dv A.n=.slice none 0 0:=(by unfold zAK.dv;rw[yq u]);simp only[yq rfl,e]at J;clear h;go_enter func29,ntmps29;go_wp2_with fail;go_ret;exact⟨rfl,rfl⟩};{rw[yl u];have e:l.dv A.n=.slice l.db A.n l.dc:=(by unfold zAK.dv;rw[yl u]);rw[e]at J;have hz:((A.n:Int)==0)=false:=(by simp;omega);have h1:w.cell? (l.db,1)=some (.slice (zp (l.bk 0)) A.m A.m):=(by have:=h.drives.cell (0*4+1) zo;rw[zBV _ _ _ zo]at this;simpa[zC0]using this);have a0:(0:Int)<(A.n:Int):=zo;clear h e;go_enter func29,ntmps29;go_wp2_with fail;go_ret;exact⟨rfl,rfl⟩}
inductive Tr where
 | done
 | rd (u:List Nat) (t:Tr)
 | op (m:Nat) (t:Tr)
 | fork (J:Nat) (Z:Tr) (V:Nat) (O:Tr)
def zLn(md:Region.Mode)(u:Array Oper)(T:Array Bool->Bool):List Nat->Array Bool->Bool
 | [],listed=>T listed
 | i::is,listed=>(u[i]?).isSome&&(Region.ready md u listed).contains i&&Region.free md u listed i&&zLn md u T is (listed.setIfInBounds i true)
def zGn(md:Region.Mode)(u:Array Oper):Tr->Array Bool->Bool
 | .done,listed=>decide (Region.ready md u listed=[])
 | .rd idx t,listed=>zLn md u (zGn md u t) idx listed
 | .op m t,listed=>decide (Region.ready md u listed=[m])&&zGn md u t (listed.setIfInBounds m true)
 | .fork m1 t1 m2 t2,listed=>decide (Region.ready md u listed=[m1,m2])&&zGn md u t1 (listed.setIfInBounds m1 true)&&zGn md u t2 (listed.setIfInBounds m2 true)
def zKo:Tr->Nat
 | .done=>0
 | .rd idx t=>idx.length+zKo t
 | .op _ t=>zKo t+1
 | .fork _ t1 _ t2=>max (zKo t1) (zKo t2)+1
def zLo(o:Oper):Bool:=zCb o||(match o.op with | .makeFunc _ _ _=>true | _=>false)
def zIO(l:List Oper):Tr->Bool
 | .done=>true
 | .rd idx t=>(pick l idx).all zLo&&zIO l t
 | .op _ t=>zIO l t
 | .fork _ t1 _ t2=>zIO l t1&&zIO l t2
section
variable {P:Program} {ops:Array Oper} {Q:Exit->Act->World->Prop} {md:Region.Mode} {S:World->Prop}
def zD4(P:Program)(l:List Oper)(Q:Exit->Act->World->Prop)(S:World->Prop):Tr->Act->World->Prop
 | .done,a,w=>Q .normal a w
 | .rd idx t,a,w=>wpQuiet P l.toArray S (fun J=>zD4 P l Q S t J w) (pick l idx) a
 | .op m t,a,w=>wpOp P l.toArray Q m (fun u w2=>S w2∧zD4 P l Q S t u w2) a w
 | .fork m1 t1 m2 t2,a,w=>wpOp P l.toArray Q m1 (fun u w2=>S w2∧zD4 P l Q S t1 u w2) a w∧wpOp P l.toArray Q m2 (fun u w2=>S w2∧zD4 P l Q S t2 u w2) a w
theorem zPH(u:zLo o=true)(ρ:Operand->Value)(w:zw):zN3 ((execOp ρ o).run P w):=by
 unfold zLo at u;by_cases h:zCb o=true;{exact zHx h ρ w};{unfold execOp;(cases J:o.op with |makeFunc fn first captured=>(exact zAL _ w)|_=>(simp[h,J]at u))}
theorem zCC:∀(l:List Oper) (a:Act),l.all zLo=true->wpQuiet P ops S K l a->zBp P ops S K l a
 | [],_,_,h=>h
 | o::l,a,hd,h=>by
  simp only[List.all_cons,yD]at hd;unfold wpQuiet at h;by_cases O:Region.wanted o (yielded ops a.tmps)=true
  ·rw[yq O]at h;obtain⟨v,V,Z⟩:=h;refine⟨v,.inl ⟨O,fun w hS=>?_⟩,zCC l _ hd.2 Z⟩;have J:=V w hS;unfold Oper.quietAt at J;rcases zPH (P:=P) hd.1 a.eval w with⟨u,w',e⟩ | ⟨x,w',e⟩
   ·rw[e]at J ⊢;obtain⟨rfl,rfl⟩:=J
    rfl
   ·rw[e]at J;exact J.elim
  ·rw[yl O]at h;exact⟨undef,.inr ⟨by simpa using O,rfl⟩,zCC l _ hd.2 h⟩
theorem zCD:∀{f g:Nat} {u:Array Bool} {a:Act} {w:zw},f≤g->wpAnyH P md ops Q S f u a w->wpAnyH P md ops Q S g u a w
 | 0,0,_,_,_,_,h=>h
 | 0,g+1,u,a,w,_,h=>⟨fun _=>h.2,fun i J=>by rw[h.1]at J;cases J⟩
 | f+1,0,_,_,_,hfg,_=>zo
 | f+1,g+1,u,a,w,hfg,h=>⟨h.1,fun i J=>wpOp_mono (fun O w' h'=>⟨h'.1,zCD zo h'.2⟩) (h.2 i J)⟩
theorem zE7{f:Nat}(hS:S w)(O:Region.noSelect ops=true)(hQ:∀c a d v w,Q (.panic c) (Act.put a d v) w->Q (.panic c) a w)
  (hT:∀u a,T u=true->K a->wpAnyH P md ops Q S f u a w):
  ∀(J:List Nat) (u:Array Bool) (a:Act),zLn md ops T J u=true->zBp P ops S K (J.filterMap fun i=>ops[i]?) a->wpAnyH P md ops Q S (J.length+f) u a w
 | [],u,a,Z,h=>by rw[yK,yc];exact hT _ _ Z h
 | i::J,u,a,Z,h=>by
  simp only[zLn,yD]at Z;obtain⟨⟨⟨V,hr⟩,hf⟩,Z⟩:=Z;obtain⟨o,ho⟩:=Option.isSome_iff_exists.1 V;rw[ym,ho]at h;obtain⟨v,hy,hK⟩:=h;rw[yF,show J.length+1+f=(J.length+f)+1 by omega];exact wpAnyH_first ho (Region.noSelect_spec O) (fun c a w=>hQ c a _ _ w) (J.length+f) u a w (Region.free_spec ho hf) (by simpa using hr) hy hS (zE7 hS O hQ hT J _ _ Z hK)
theorem zBa(J:Region.noSelect l.toArray=true)(hQ:∀c a d v w,Q (.panic c) (Act.put a d v) w->Q (.panic c) a w):
  ∀(t:Tr) (u:Array Bool) (a:Act) (w:zw),S w->zGn md l.toArray t u=true->zIO l t=true->zD4 P l Q S t a w->wpAnyH P md l.toArray Q S (zKo t) u a w
 | .done,u,a,w,hS,hB,_,h=>⟨by simpa[zGn]using hB,h⟩
 | .rd idx t,u,a,w,hS,hB,hR,h=>by
  simp only[zIO,yD]at hR;have hp:(idx.filterMap fun i=>l.toArray[i]?)=pick l idx:=by simp[pick]
  exact zE7 hS J hQ (fun O V hT hK=>zBa J hQ t O V w hS hT hR.2 hK) idx u a hB (by rw[hp];exact zCC _ _ hR.1 h)
 | .op m t,u,a,w,hS,hB,hR,h=>by
  simp only[zGn,yD,yL]at hB;refine⟨by rw[hB.1];simp,fun i Z=>?_⟩;rw[hB.1]at Z;obtain rfl:i=m:=by simpa using Z
  exact wpOp_mono (fun V w' h'=>⟨h'.1,zBa J hQ t _ V w' h'.1 hB.2 hR h'.2⟩) h
 | .fork m1 t1 m2 t2,u,a,w,hS,hB,hR,h=>by
  simp only[zGn,yD,yL]at hB;simp only[zIO,yD]at hR;refine⟨by rw[hB.1.1];simp,fun i Z=>?_⟩;rw[hB.1.1]at Z;rcases List.mem_cons.1 Z with rfl | Z
  ·exact wpOp_mono (fun V w' h'=>⟨h'.1,zCD (Nat.le_max_left _ _) (zBa J hQ t1 _ V w' h'.1 hB.1.2 hR.1 h'.2)⟩) h.1
  ·obtain rfl:i=m2:=(by simpa using Z);exact wpOp_mono (fun V w' h'=>⟨h'.1,zCD (Nat.le_max_right _ _) (zBa J hQ t2 _ V w' h'.1 hB.2 hR.2 h'.2)⟩) h.2
theorem zG{J:Nat}(t:Tr)(S:World->Prop)(hm:P.follows .mixedOrders=true)(u:(Region.noSelect l.toArray&&zGn .any l.toArray t (Array.replicate l.length false)&&decide (zKo t≤l.length)&&zIO l t)=true)
  (O:∀c a d v w,Q (.panic c) (Act.put a d v) w->Q (.panic c) a w)(Z:S w.drew)(V:zD4 P l Q S t a w.drew):(Code.region J l.toArray true).wp P Q a w:=by
 simp only[yD,yL]at u;refine wp_region_any hm (wpAny_of_held (S:=S) _ _ _ _ ?_);exact zCD (by simpa using u.1.2) (zBa u.1.1.1 O t _ a _ Z (by simpa using u.1.1.2) u.2 V)
theorem zE{u:List Nat}{t:Tr}(h:wpQuiet P l.toArray S (fun J=>zD4 P l Q S t J w) (pick l u) a):zD4 P l Q S (.rd u t) a w:=h
theorem zD{m:Nat}{t:Tr}(h:wpOp P l.toArray Q m (fun u w2=>S w2∧zD4 P l Q S t u w2) a w):zD4 P l Q S (.op m t) a w:=h
theorem zBb{J V:Nat}{Z O:Tr}(h1:wpOp P l.toArray Q J (fun u w2=>S w2∧zD4 P l Q S Z u w2) a w)(h2:wpOp P l.toArray Q V (fun u w2=>S w2∧zD4 P l Q S O u w2) a w):zD4 P l Q S (.fork J Z V O) a w:=⟨h1,h2⟩
theorem zF(h:Q .normal a w):zD4 P l Q S .done a w:=h
end
end Go.Proofs.YtonfdlhikinldaaGreatDoor
