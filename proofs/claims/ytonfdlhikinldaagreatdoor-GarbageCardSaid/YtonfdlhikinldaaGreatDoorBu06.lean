import Derived.Test.YtonfdlhikinldaaGreatDoorBu04
import Derived.Test.YtonfdlhikinldaaGreatDoorBu05
import Derived.Test.YtonfdlhikinldaaGreatDoorRows
import Derived.ChangeVars
import Derived.JoinedOf
import Derived.RowKitTokens
import Derived.LaidLaws
import Derived.LaidHandle
import Derived.Stop.Joined
set_option maxRecDepth 100000
set_option linter.all false
set_option linter.unusedVariables false
set_option maxHeartbeats 16000000
namespace Go.Proofs.YtonfdlhikinldaaGreatDoor
open Go.ChangeShapes Go.WideShapes Go.RowKit Go.Proofs.Tryz
def zSn:List (String × DataW Unit):=[("errors.errorType",Rows.laid_errors_errorType)]
theorem zSo:prog.globalNamed "errors.errorType"=some 0:=by kernel_rfl
theorem zSp:(prog.cutTypes.find? (·.1== "internal/reflectlite.rtype")).map (·.2)=some 184:=by kernel_rfl
theorem zQy:((List.range 321).filter fun t=>prog.rowNamed t [101,114,114,111,114])=[42]:=by kernel_rfl
theorem zPF:prog.types.size=321:=by kernel_rfl
theorem zGl{W:zw}(h:laidMetH prog zSn W):zCt W:=by
 have h':laidMet prog [] W∧handlesMet prog zSn W:=h;obtain⟨name,u,ty,e1,Z,e3,e4,J⟩:=h'.2 _ (List.mem_singleton.2 rfl);have V:=(yBh e1).symm;subst V;obtain rfl:=yBh (zSp.symm.trans Z);have O:ty∈(List.range 321).filter fun t=>prog.rowNamed t [101,114,114,111,114]:=List.mem_filter.2 ⟨List.mem_range.2 (by rw[<-zPF];exact e3),e4⟩;rw[zQy]at O;obtain rfl:=List.mem_singleton.1 O;have hh:typeHandle prog 42=.pointer (some ⟨3,42,none⟩):=(by kernel_rfl);rw[hh]at J;unfold zCt;simpa using World.var?_cell zSo J 0
noncomputable def zPG(os:Os):World:=
 let u:=World.holding prog os ⟨#[],#[],[]⟩
 {u with heap:=u.heap.modify 0 fun
   | .cells _ t frozen=>.cells #[.iface 184 (.agg #[.pointer (some ⟨3,42,none⟩)])] t frozen
   | o=>o}
end Go.Proofs.YtonfdlhikinldaaGreatDoor
