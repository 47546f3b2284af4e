import Derived.Test.YtonfdlhikinldaaGreatDoorChecked
import Derived.DeepKeys4
import Derived.Test.YtonfdlhikinldaaGreatDoorZb
set_option maxRecDepth 100000
set_option linter.all false
set_option linter.unusedVariables false
set_option maxHeartbeats 16000000
namespace Go.Proofs.YtonfdlhikinldaaGreatDoor
open Go Go.RowKit Go.Proofs Lin Go.Proofs.Tryz
theorem zTf:laidOutB prog=true:=by kernel_rfl
end Go.Proofs.YtonfdlhikinldaaGreatDoor
