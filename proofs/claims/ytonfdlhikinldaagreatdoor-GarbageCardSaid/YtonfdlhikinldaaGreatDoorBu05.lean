import Derived.Test.YtonfdlhikinldaaGreatDoorBu03
import Derived.ProofKit
import Derived.OpenShut
import Derived.SizedLaws
import Derived.Deep.Modes
import Derived.Deep.Frames
import Derived.Deep.Slices
import Derived.Deep.Matrix
set_option maxRecDepth 100000
set_option linter.all false
set_option linter.unusedVariables false
set_option maxHeartbeats 16000000
namespace Go.Proofs.YtonfdlhikinldaaGreatDoor
open Go.ChangeShapes Go.WideShapes Go.ChangeAt Go.RowKit Go.Deep Go.Proofs.Tryz
theorem zU6:ownKnob prog.godebug=none:=by kernel_rfl
theorem zQW:laidOutB prog=true:=by kernel_rfl
theorem zLY:reachBytes=140737488351232:=rfl
section
variable {H:Type} {enc:TypeId × Value->H} {P:Program}
theorem zEU(hl:laidOutB P=true){W W':zw}(hb:Below W W W'):∀{u:List TypeId} {J:List Value} {Z:List (DataW H)} {V:List MemPlace},
  (u.all fun t=>P.readableRec t&&decide (t<P.types.size))=true->DataW.TrodAll enc P W 0 (fun _=>true) true u J Z V->(∀x∈V,x.block<W.heap.size)->
  DataW.TrodAll enc P W' 0 (fun x=>decide (x<W.heap.size)) true u J Z V
 | [],_,_,_,_,h,_=>by
  obtain⟨rfl,rfl,rfl⟩:=trodAll_nil h;exact trodAll_mk0
 | t::u,_,_,_,hr,h,hlt=>by
  obtain⟨v,J,d,Z,p,q,rfl,rfl,rfl,h1,h2⟩:=trodAll_cons h;simp only[List.all_cons,yD,yL]at hr;exact trodAll_cons_mk (Below.trod hl hr.1.1 hr.1.2 h1 hb (fun x O=>hlt x (yBH _ O))) (zEU hl hb (by simpa using hr.2) h2 (fun x O=>hlt x (List.mem_append_right _ O)))
theorem zQX{f:Func}{s:ChangeSpec}{u:Bool}{W W':zw}{args:Array Value}{Z:List (DataW H)}{J:List MemPlace}{tb:TypeId}(hl:laidOutB P=true)
  (hb:P.underlying tb=some .bool)(a3:f.resultTypes=#[tb])(a2:(f.params.toList.all fun t=>P.readableRec t&&decide (t<P.types.size))=true)(hv:s.vars=[])
  (a1:(s.fn H Z).results=[.lit (.bool true)])(O:(s.fn H Z).args=Z)(V:(s.fn H Z).vars=[])
  (hW:DataW.Whole enc P f.params.toList s.vars u W args.toList Z [] J)(hB:Below W W W'):
  s.post enc P f u true false false W args (.bool true) W':=by
 have a0:=hW;obtain⟨p,q,hA,hV,rfl,_,_⟩:=hW;rw[hv]at hV;obtain⟨_,rfl⟩:=trodVars_none hV;refine⟨Z,[],p++[],[],p,[],a0,?_,?_,?_,hB.frame _,fun h=>by cases h⟩;{rw[yAQ,a1,a3];exact trodAll_mk1 (shut_bool hb true)};{rw[yAQ,O];refine zEU hl hB a2 hA fun x hx=>a0.lt x (by simp[hx])};{rw[yAQ,V,hv];rfl}
theorem zDm{e:TypeId}:∀{l:List (DataW H)} {d:DataW H},d∈l->∀n∈d.weights P e,n∈DataW.weightsAll P e l
 | d'::r,d,hd,n,hn=>by
  simp only[DataW.weightsAll,yAr];rcases List.mem_cons.1 hd with rfl | h
  ·exact Or.inl hn
  ·exact Or.inr (zDm h n hn)
end
theorem zSL:prog.cellsOf 5=1:=by kernel_rfl
theorem zSM:prog.bytesOf 5=1:=by kernel_rfl
theorem zSN{u:List Int}(h:∀n∈u,(Lit.int .u8 n).wf=true)(i:Nat):((b8 (u.getD i 0)).toNat:Int)=u.getD i 0:=by
 have J:(Lit.int .u8 (u.getD i 0)).wf=true:=(by rw[yg];(cases e:u[i]? with |none=>(decide)|some z=>(exact h z (List.mem_of_getElem? e))));obtain⟨x,O⟩:=zMM J;rw[O,zTQ]
end Go.Proofs.YtonfdlhikinldaaGreatDoor
