import Derived.Test.YtonfdlhikinldaaGreatDoorBu06
import Derived.Shelf.Spec.TrailingZeros
import Derived.Lib.LaidU8
import Derived.LaidMore
set_option maxRecDepth 100000
set_option linter.all false
set_option linter.unusedVariables false
set_option maxHeartbeats 16000000
namespace Go.Proofs.YtonfdlhikinldaaGreatDoor
open Go.ChangeShapes Go.WideShapes Go.RowKit Go.Shelf Go.Proofs.Tryz
def zGQ:List (String × DataW Unit):=[("math/bits.deBruijn64tab",Rows.laid_math_bits_deBruijn64tab),("errors.errorType",Rows.laid_errors_errorType)]
theorem zHU{W:zw}(h:laidMetH prog zGQ W):laidMet prog [("math/bits.deBruijn64tab",Rows.laid_math_bits_deBruijn64tab)] W∧handlesMet prog [("errors.errorType",Rows.laid_errors_errorType)] W:=h
theorem zGR{W:zw}(h:laidMetH prog zGQ W):zCt W:=zGl (show laidMetH prog zSn W from⟨Go.laidMet_nil _ _,(zHU h).2⟩)
def zSt:List Int:=Lib.deBruijn64tab.map fun(n:Nat)=>(n:Int)
theorem zKn{W:zw}(h:laidMetH prog zGQ W):TabAt 2 Lib.deBruijn64tab W:=by
 obtain⟨ps,⟨g,t,cs,a0,p,q,hg,ht,hv,hd,_,_⟩,_,_⟩:=(zHU h).1;obtain rfl:=yBh ((show prog.globalNamed "math/bits.deBruijn64tab"=some 2 by kernel_rfl).symm.trans hg);obtain rfl:=yBh ((show(prog.globals[2]?).map (·.type)=some 39 by kernel_rfl).symm.trans ht);obtain⟨u,m,_,ex,_,hl,V⟩:=DataW.trod_array underlying39 hd;intro r hr;have Z:zSt.length=64:=(by kernel_rfl);have J:r<64:=hr;have c5:prog.cellsOf 5=1:=(by kernel_rfl);have hE:=V r J;rw[c5,Nat.mul_one,yx zo]at hE;obtain⟨z,e1,e2,_⟩:=yAR underlying5 hE;have e3:(u.map (·.1))=zSt.map fun n=>.lit (.int .u8 n):=((DataW.agg.inj (Prod.mk.inj ex).1).symm:_);have O:(u.map (·.1))[r]? =(zSt.map fun n=>(DataW.lit (.int .u8 n):DataW Unit))[r]? :=(by rw[e3]);rw[yBc,yBc,yx (by omega:r<u.length),yx (by omega:r<zSt.length),e2]at O;have hz:z=((Lib.deBruijn64tab.getD r 0:Nat):Int):=(by simp only[Option.map_some,Option.some.injEq,DataW.lit.injEq,Lit.int.injEq,true_and]at O;rw[O];unfold zSt;rw[yBz,List.getD,yx hr];rfl);rw[World.var?_cell hg hv r,<-hz];have h0:((cs.toList.drop r).take 1)[0]? =some (.int .u8 z):=(by rw[e1];rfl);simpa using h0
noncomputable def zHV(os:Os):World:=
 let u:=zPG os
 {u with heap:=u.heap.modify 2 fun
   | .cells _ t frozen=>.cells (zSt.map fun n=>Value.int .u8 n).toArray t frozen
   | o=>o}
theorem zGm(os:Os)(args:Array Value):laidMetH prog zGQ ((zHV os).forCall (fun _ _=>0) ⟨#[],args,[]⟩).memory:=
 laidMetH_of_parts (laidMet_of_run' 8 zk zk) zk
end Go.Proofs.YtonfdlhikinldaaGreatDoor
