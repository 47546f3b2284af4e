import Derived.Test.YtonfdlhikinldaaGreatDoorBu05
import Derived.Test.YtonfdlhikinldaaGreatDoorBu04
import Derived.Lib.SmallJoins
import Derived.Deep.Slices
import Derived.Deep.Fields
import Derived.ChangeSame
set_option maxRecDepth 100000
set_option linter.all false
set_option linter.unusedVariables false
set_option maxHeartbeats 16000000
namespace Go.Proofs.YtonfdlhikinldaaGreatDoor
open Go.ChangeShapes Go.WideShapes Go.ChangeAt Go.RowKit Go.Deep Go.Joins Go.Proofs.Tryz
section
variable {H:Type} {enc:TypeId × Value->H} {P:Program} {w:zw} {base:Nat} {spare:Nat->Bool} {held:Bool}
theorem zCg{t e:TypeId}{fs:Array Field}{a3:Nat}{cs:List Value}{x:DataW H × List MemPlace}(ht:P.underlying t=some (.slice e))(he:P.underlying e=some (.struct fs))
  (a2:oneCellFields P fs=true)(hC:P.cellsOf e=fs.size)(h:DataW.trod enc P w base spare held a3 t cs=some x):
  (cs=[.slice none 0 0]∧x=(.nil,[]))∨
  ∃(a:Addr) (u J m:Nat) (D:Nat->DataW H) (Pl:Nat->List MemPlace),cs=[.slice (some a) u J]∧base≤a.block∧u≤J∧J≤maxLen∧m=(if spare a.block then J else u)∧
   x=(.slice ((List.range u).map D) ((List.range (m - u)).map fun j=>D (u+j)),MemPlace.row a (m*fs.size)++(List.range m).flatMap Pl)∧
   ∀i,i<m->∃(V:List (DataW H × List MemPlace)) (n:Nat),D i=.agg (V.map (·.1))∧Pl i=V.flatMap (·.2)∧V.length=fs.size∧
    ∀(j:Nat) (f:Field),fs[j]? =some f->∃(v:Value) (y:DataW H × List MemPlace),w.cell? (a.add (i*fs.size+j))=some v∧V[j]? =some y∧DataW.trod enc P w base spare held n f.type [v]=some y:=by
 rcases open_slice ht h with h0 | ⟨a,u,J,m,n,D,Pl,b0,hb,hl,hm,a6,hx,hi⟩;{exact .inl h0};{refine .inr ⟨a,u,J,m,D,Pl,b0,hb,hl,hm,a6,by rw[hC]at hx;exact hx,fun i a8=>?_⟩;obtain⟨O,hc,a9⟩:=hi i a8;rw[hC]at hc;obtain⟨V,n',b3,hy,b1,a4,hf⟩:=DataW.trod_struct he a9;obtain⟨_,b2,a5⟩:=World.cells?_some hc;simp only[Prod.mk.injEq]at hy;refine⟨V,n',hy.1,hy.2,a4,fun j f hj=>?_⟩;obtain⟨ho,hk⟩:=hone_of a2 j f hj;have a7:=(Array.getElem?_eq_some_iff.1 hj).1;have a0:=a5 j a7;have hv:O[j]? =some (O[j]'zo):=yx zo;have h1:=hf j f hj;rw[ho,hk]at h1;have Z:(O.drop j).take 1=[O[j]'zo]:=(by rw[yBg zo];rfl);rw[Z]at h1;have a1:V[j]? =some (V[j]'zo):=yx zo;refine⟨_,_,?_,a1,h1.trans a1⟩;rw[<-Go.Deep.add_add,a0,hv]}
end
end Go.Proofs.YtonfdlhikinldaaGreatDoor
