/-
  NARROWER THAN 'FOR EVERY INPUT', by the rows' own cells (each row's printed sentence says how): Checks: laid · Packs: laid · Matrices: laid · Encodes: laid.
  DERIVED. THE GIVEN ROWS OF THIS SEAT. 4 by the template 'for every input the law returns true; each argument reads behind the call as it read before'; 0 by the template 'total and deterministic' (their statements: YthaamnjpjkkolaaDoorTotals.lean).
  GIVEN WITH THE SEED: the statements are not yours to turn. If you find one false, say at which input.
  Laid BY PROGRAM, IN A SANDBOX (cutbox-rows.mjs): the forced cells as the released guide's own fill.sh prints them over the translation ebd2be00b5c7a3a2… (all of the seat's roots in one cut). By AI agents, Wed Nov 11 2026. No macro, syntax, notation, axiom, sorry.
-/
import Derived.Test.YthaamnjpjkkolaaDoorChecked
import GoSem.Claim
import GoSem.ClaimJoined
import GoSem.ClaimMapViews
import Derived.JoinedTies
import Derived.KernelRfl
namespace Go.Proofs.YthaamnjpjkkolaaDoor
/- THE CELL 'sum', in the pinned program and in every row, IS THE sha256 OF THE DUMP (.gsa) THAT YthaamnjpjkkolaaDoorProg.lean LOADS. Nothing in Lean hashes anything: it is a label: what it is worth is what the hold of that sum in a sandbox is worth. -/
noncomputable def Tryd.pinned : Pinned := { name := "ythaamnjpjkkolaadoor", sum := "ebd2be00b5c7a3a2d2fe9827e68844511baef4b7c177ee69291e0a5961d593c5", checked := Tryd.checked }
namespace Rows
def none {H : Type} : Left H := { results := [], args := [] }

/- WHAT THE LISTED PACKAGE-LEVEL VARIABLES READ AS WHEN THE CALL BEGINS. Each datum BY PROGRAM (the guide's laid-datum.mjs) off the statement by which the dump's own 'gosem.cut.vars' lays the variable. In a bare row this is a premise. The card (YthaamnjpjkkolaaDoorCards.lean) ties it to the program's text. -/
def laid_errors_errorType {H : Type} : DataW H := .iface "internal/reflectlite.rtype" (.agg [.ptr (.lit (.string [101, 114, 114, 111, 114]))])

/-- 'stripeslaw.Checks': WHATEVER THE INPUT: true; the input reads as it did. -/
def checksSpec : ChangeSpec := { name := "checks", fn := fun _ => fun
  | [d1, d2] => { results := [.lit (.bool true)], args := [d1, d2] }
  | _ => none }
def checksRow : OpenClaim := { program := "ythaamnjpjkkolaadoor", sum := "ebd2be00b5c7a3a2d2fe9827e68844511baef4b7c177ee69291e0a5961d593c5", func := "stripes/stripeslaw.Checks", spec := "checks", inPlace := ["internal/reflectlite.ValueOf", "(internal/reflectlite.Value).Type", "(internal/reflectlite.Value).IsNil", "internal/reflectlite.TypeOf", "(internal/reflectlite.Value).Elem", "(internal/reflectlite.Value).Set"], unfollowed := true, recurses := true, named := ["errors.errorType"], apart := false, laid := [("errors.errorType", laid_errors_errorType)] }
def ChecksSaid : Prop := checksRow.holds Tryd.pinned (OpenSpec.ofChange checksSpec)

/-- ITS FALSE NEIGHBOUR: 'it returns false'. Refute it at one input. -/
def checksWrong : ChangeSpec := { name := "checks", fn := fun _ => fun
  | [d1, d2] => { results := [.lit (.bool false)], args := [d1, d2] }
  | _ => none }
def ChecksWrongFalsely : Prop := checksRow.holds Tryd.pinned (OpenSpec.ofChange checksWrong)

/-- 'stripeslaw.Packs': WHATEVER THE INPUT: true; the input reads as it did. -/
def packsSpec : ChangeSpec := { name := "packs", fn := fun _ => fun
  | [d1, d2] => { results := [.lit (.bool true)], args := [d1, d2] }
  | _ => none }
def packsRow : OpenClaim := { program := "ythaamnjpjkkolaadoor", sum := "ebd2be00b5c7a3a2d2fe9827e68844511baef4b7c177ee69291e0a5961d593c5", func := "stripes/stripeslaw.Packs", spec := "packs", inPlace := ["internal/reflectlite.ValueOf", "(internal/reflectlite.Value).Type", "(internal/reflectlite.Value).IsNil", "internal/reflectlite.TypeOf", "(internal/reflectlite.Value).Elem", "(internal/reflectlite.Value).Set"], unfollowed := true, recurses := true, named := ["errors.errorType"], apart := false, laid := [("errors.errorType", laid_errors_errorType)] }
def PacksSaid : Prop := packsRow.holds Tryd.pinned (OpenSpec.ofChange packsSpec)

/-- ITS FALSE NEIGHBOUR: 'it returns false'. Refute it at one input. -/
def packsWrong : ChangeSpec := { name := "packs", fn := fun _ => fun
  | [d1, d2] => { results := [.lit (.bool false)], args := [d1, d2] }
  | _ => none }
def PacksWrongFalsely : Prop := packsRow.holds Tryd.pinned (OpenSpec.ofChange packsWrong)

/-- 'stripeslaw.Matrices': WHATEVER THE INPUT: true; the input reads as it did. -/
def matricesSpec : ChangeSpec := { name := "matrices", fn := fun _ => fun
  | [d] => { results := [.lit (.bool true)], args := [d] }
  | _ => none }
def matricesRow : OpenClaim := { program := "ythaamnjpjkkolaadoor", sum := "ebd2be00b5c7a3a2d2fe9827e68844511baef4b7c177ee69291e0a5961d593c5", func := "stripes/stripeslaw.Matrices", spec := "matrices", inPlace := ["internal/reflectlite.ValueOf", "(internal/reflectlite.Value).Type", "(internal/reflectlite.Value).IsNil", "internal/reflectlite.TypeOf", "(internal/reflectlite.Value).Elem", "(internal/reflectlite.Value).Set"], unfollowed := true, recurses := true, named := ["errors.errorType"], apart := false, laid := [("errors.errorType", laid_errors_errorType)] }
def MatricesSaid : Prop := matricesRow.holds Tryd.pinned (OpenSpec.ofChange matricesSpec)

/-- ITS FALSE NEIGHBOUR: 'it returns false'. Refute it at one input. -/
def matricesWrong : ChangeSpec := { name := "matrices", fn := fun _ => fun
  | [d] => { results := [.lit (.bool false)], args := [d] }
  | _ => none }
def MatricesWrongFalsely : Prop := matricesRow.holds Tryd.pinned (OpenSpec.ofChange matricesWrong)

/-- 'stripeslaw.Encodes': WHATEVER THE INPUT: true; the input reads as it did. -/
def encodesSpec : ChangeSpec := { name := "encodes", fn := fun _ => fun
  | [d1, d2] => { results := [.lit (.bool true)], args := [d1, d2] }
  | _ => none }
def encodesRow : OpenClaim := { program := "ythaamnjpjkkolaadoor", sum := "ebd2be00b5c7a3a2d2fe9827e68844511baef4b7c177ee69291e0a5961d593c5", func := "stripes/stripeslaw.Encodes", spec := "encodes", inPlace := ["internal/reflectlite.ValueOf", "(internal/reflectlite.Value).Type", "(internal/reflectlite.Value).IsNil", "internal/reflectlite.TypeOf", "(internal/reflectlite.Value).Elem", "(internal/reflectlite.Value).Set"], unfollowed := true, recurses := true, named := ["errors.errorType"], apart := false, laid := [("errors.errorType", laid_errors_errorType)] }
def EncodesSaid : Prop := encodesRow.holds Tryd.pinned (OpenSpec.ofChange encodesSpec)

/-- ITS FALSE NEIGHBOUR: 'it returns false'. Refute it at one input. -/
def encodesWrong : ChangeSpec := { name := "encodes", fn := fun _ => fun
  | [d1, d2] => { results := [.lit (.bool false)], args := [d1, d2] }
  | _ => none }
def EncodesWrongFalsely : Prop := encodesRow.holds Tryd.pinned (OpenSpec.ofChange encodesWrong)

/- THE SECOND FORM. 'bulk': how many values and letters a reading holds, each counted each time it is reached (what is shared counts as often as it is met; a slice's spare places count too). A statement '..UptoSaid' is the law's where the arguments, and the package variables that the reading takes, are together of bulk at most 1048576: NARROWER than '..Said'. Prove '..Said' where nothing that the law and all that it calls make is longer than what came in: it says more and counts as full. Else prove '..UptoSaid'. A law counts once. -/
mutual
def uptoBulk {H : Type} : DataW H → Nat
  | .lit (.string bytes) => bytes.length + 1
  | .lit _ => 1
  | .nil => 1
  | .ptr d => uptoBulk d + 1
  | .slice elems spare => uptoBulkAll elems + uptoBulkAll spare + 1
  | .agg parts => uptoBulkAll parts + 1
  | .iface _ d => uptoBulk d + 1
  | .map entries => uptoBulkEntries entries + 1
  | .held _ => 1
def uptoBulkAll {H : Type} : List (DataW H) → Nat
  | [] => 0
  | d :: r => uptoBulk d + uptoBulkAll r
def uptoBulkEntries {H : Type} : List (Lit × DataW H) → Nat
  | [] => 0
  | x :: r => uptoBulkEntry x + uptoBulkEntries r
def uptoBulkEntry {H : Type} : Lit × DataW H → Nat
  | (.string bytes, d) => bytes.length + uptoBulk d + 1
  | (_, d) => uptoBulk d + 1
 end
def uptoSmall : (H : Type) → List (DataW H) → Bool := fun _ ds => decide (uptoBulkAll ds ≤ 1048576)
def OpenSpec.upto (s : _root_.Go.ChangeSpec) : _root_.Go.OpenSpec := { _root_.Go.OpenSpec.ofChange s with cond := some uptoSmall }

/-- 'stripeslaw.Checks', WHERE WHAT IT READS IS OF BULK AT MOST 1048576: true; the input reads as it did. -/
def checksUptoRow : OpenClaim := { program := "ythaamnjpjkkolaadoor", sum := "ebd2be00b5c7a3a2d2fe9827e68844511baef4b7c177ee69291e0a5961d593c5", func := "stripes/stripeslaw.Checks", spec := "checks", inPlace := ["internal/reflectlite.ValueOf", "(internal/reflectlite.Value).Type", "(internal/reflectlite.Value).IsNil", "internal/reflectlite.TypeOf", "(internal/reflectlite.Value).Elem", "(internal/reflectlite.Value).Set"], unfollowed := true, recurses := true, named := ["errors.errorType"], apart := false, laid := [("errors.errorType", laid_errors_errorType)], narrowed := true }
def ChecksUptoSaid : Prop := checksUptoRow.holds Tryd.pinned (OpenSpec.upto checksSpec)

/-- 'stripeslaw.Packs', WHERE WHAT IT READS IS OF BULK AT MOST 1048576: true; the input reads as it did. -/
def packsUptoRow : OpenClaim := { program := "ythaamnjpjkkolaadoor", sum := "ebd2be00b5c7a3a2d2fe9827e68844511baef4b7c177ee69291e0a5961d593c5", func := "stripes/stripeslaw.Packs", spec := "packs", inPlace := ["internal/reflectlite.ValueOf", "(internal/reflectlite.Value).Type", "(internal/reflectlite.Value).IsNil", "internal/reflectlite.TypeOf", "(internal/reflectlite.Value).Elem", "(internal/reflectlite.Value).Set"], unfollowed := true, recurses := true, named := ["errors.errorType"], apart := false, laid := [("errors.errorType", laid_errors_errorType)], narrowed := true }
def PacksUptoSaid : Prop := packsUptoRow.holds Tryd.pinned (OpenSpec.upto packsSpec)

/-- 'stripeslaw.Matrices', WHERE WHAT IT READS IS OF BULK AT MOST 1048576: true; the input reads as it did. -/
def matricesUptoRow : OpenClaim := { program := "ythaamnjpjkkolaadoor", sum := "ebd2be00b5c7a3a2d2fe9827e68844511baef4b7c177ee69291e0a5961d593c5", func := "stripes/stripeslaw.Matrices", spec := "matrices", inPlace := ["internal/reflectlite.ValueOf", "(internal/reflectlite.Value).Type", "(internal/reflectlite.Value).IsNil", "internal/reflectlite.TypeOf", "(internal/reflectlite.Value).Elem", "(internal/reflectlite.Value).Set"], unfollowed := true, recurses := true, named := ["errors.errorType"], apart := false, laid := [("errors.errorType", laid_errors_errorType)], narrowed := true }
def MatricesUptoSaid : Prop := matricesUptoRow.holds Tryd.pinned (OpenSpec.upto matricesSpec)

/-- 'stripeslaw.Encodes', WHERE WHAT IT READS IS OF BULK AT MOST 1048576: true; the input reads as it did. -/
def encodesUptoRow : OpenClaim := { program := "ythaamnjpjkkolaadoor", sum := "ebd2be00b5c7a3a2d2fe9827e68844511baef4b7c177ee69291e0a5961d593c5", func := "stripes/stripeslaw.Encodes", spec := "encodes", inPlace := ["internal/reflectlite.ValueOf", "(internal/reflectlite.Value).Type", "(internal/reflectlite.Value).IsNil", "internal/reflectlite.TypeOf", "(internal/reflectlite.Value).Elem", "(internal/reflectlite.Value).Set"], unfollowed := true, recurses := true, named := ["errors.errorType"], apart := false, laid := [("errors.errorType", laid_errors_errorType)], narrowed := true }
def EncodesUptoSaid : Prop := encodesUptoRow.holds Tryd.pinned (OpenSpec.upto encodesSpec)

end Rows
end Go.Proofs.YthaamnjpjkkolaaDoor
