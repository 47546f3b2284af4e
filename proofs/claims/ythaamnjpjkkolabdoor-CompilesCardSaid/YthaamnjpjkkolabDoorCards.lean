/-
  DERIVED. GIVEN WITH THE SEED: THE CARDS: each row of YthaamnjpjkkolabDoorRows.lean that lists a variable, with what it lists TIED to the program's text (the seventh form; the later family's looks); each row that meets fmt, with fmt's text TOLD by the authors' own Lean function (tested against real Go, not proved from fmt's source: count such statements apart). THE CARD IS WHAT COUNTS. Prove the row's statement (the work); the ties are given (YthaamnjpjkkolabDoorTie.lean); close each card by the builder's one call (the guide's Derived/Test/ToyasCard.lean, 'card_holds'). Laid BY PROGRAM, IN A SANDBOX (cutbox-door.mjs). By AI agents, Wed Nov 11 2026. No macro, syntax, notation, axiom, sorry.
-/
import Derived.Test.YthaamnjpjkkolabDoorRows
import GoSem.ClaimSeven
namespace Go.Proofs.YthaamnjpjkkolabDoor
namespace Rows

/-- THE TIED CARD OF 'stripeslaw.Sums'. -/
def sumsCard : Claim7 := { stood := { row := sumsRow, standIns := [], harness := (true, "fdb133e1d82655885727648344bff8f22285eceb3709ef141cd41a233e43aa87"), looks := true }, kinds := [], alts := [], laidByText := true, laidKinds := [.handle], laidTests := true, laidLooks := .later }
def SumsCardSaid : Prop := Claim7.holds Tryd.pinned (.plain (OpenSpec.ofChange sumsSpec)) sumsCard

/-- THE TIED CARD OF 'stripeslaw.Runs'. -/
def runsCard : Claim7 := { stood := { row := runsRow, standIns := [], harness := (true, "fdb133e1d82655885727648344bff8f22285eceb3709ef141cd41a233e43aa87"), looks := true }, kinds := [], alts := [], laidByText := true, laidKinds := [.handle], laidTests := true, laidLooks := .later }
def RunsCardSaid : Prop := Claim7.holds Tryd.pinned (.plain (OpenSpec.ofChange runsSpec)) runsCard

/-- THE TIED CARD OF 'stripeslaw.Groups'. -/
def groupsCard : Claim7 := { stood := { row := groupsRow, standIns := [], harness := (true, "fdb133e1d82655885727648344bff8f22285eceb3709ef141cd41a233e43aa87"), looks := true }, kinds := [], alts := [], laidByText := true, laidKinds := [.data, .handle], laidTests := true, laidLooks := .later }
def GroupsCardSaid : Prop := Claim7.holds Tryd.pinned (.plain (OpenSpec.ofChange groupsSpec)) groupsCard

/-- THE TIED CARD OF 'stripeslaw.Compiles'. -/
def compilesCard : Claim7 := { stood := { row := compilesRow, standIns := [], harness := (true, "fdb133e1d82655885727648344bff8f22285eceb3709ef141cd41a233e43aa87"), looks := true }, kinds := [], alts := [], laidByText := true, laidKinds := [.data, .handle], laidTests := true, laidLooks := .later }
def CompilesCardSaid : Prop := Claim7.holds Tryd.pinned (.plain (OpenSpec.ofChange compilesSpec)) compilesCard

/-- THE TIED CARD OF 'stripeslaw.Least'. -/
def leastCard : Claim7 := { stood := { row := leastRow, standIns := [], harness := (true, "fdb133e1d82655885727648344bff8f22285eceb3709ef141cd41a233e43aa87"), looks := true }, kinds := [], alts := [], laidByText := true, laidKinds := [.data, .handle], laidTests := true, laidLooks := .later }
def LeastCardSaid : Prop := Claim7.holds Tryd.pinned (.plain (OpenSpec.ofChange leastSpec)) leastCard

/-- THE SECOND FORM's CARD OF 'stripeslaw.Sums'. -/
def sumsUptoCard : Claim7 := { stood := { row := sumsUptoRow, standIns := [], harness := (true, "fdb133e1d82655885727648344bff8f22285eceb3709ef141cd41a233e43aa87"), looks := true }, kinds := [], alts := [], laidByText := true, laidKinds := [.handle], laidTests := true, laidLooks := .later }
def SumsUptoCardSaid : Prop := Claim7.holds Tryd.pinned (.plain (OpenSpec.upto sumsSpec)) sumsUptoCard

/-- THE SECOND FORM's CARD OF 'stripeslaw.Runs'. -/
def runsUptoCard : Claim7 := { stood := { row := runsUptoRow, standIns := [], harness := (true, "fdb133e1d82655885727648344bff8f22285eceb3709ef141cd41a233e43aa87"), looks := true }, kinds := [], alts := [], laidByText := true, laidKinds := [.handle], laidTests := true, laidLooks := .later }
def RunsUptoCardSaid : Prop := Claim7.holds Tryd.pinned (.plain (OpenSpec.upto runsSpec)) runsUptoCard

/-- THE SECOND FORM's CARD OF 'stripeslaw.Groups'. -/
def groupsUptoCard : Claim7 := { stood := { row := groupsUptoRow, standIns := [], harness := (true, "fdb133e1d82655885727648344bff8f22285eceb3709ef141cd41a233e43aa87"), looks := true }, kinds := [], alts := [], laidByText := true, laidKinds := [.data, .handle], laidTests := true, laidLooks := .later }
def GroupsUptoCardSaid : Prop := Claim7.holds Tryd.pinned (.plain (OpenSpec.upto groupsSpec)) groupsUptoCard

/-- THE SECOND FORM's CARD OF 'stripeslaw.Compiles'. -/
def compilesUptoCard : Claim7 := { stood := { row := compilesUptoRow, standIns := [], harness := (true, "fdb133e1d82655885727648344bff8f22285eceb3709ef141cd41a233e43aa87"), looks := true }, kinds := [], alts := [], laidByText := true, laidKinds := [.data, .handle], laidTests := true, laidLooks := .later }
def CompilesUptoCardSaid : Prop := Claim7.holds Tryd.pinned (.plain (OpenSpec.upto compilesSpec)) compilesUptoCard

/-- THE SECOND FORM's CARD OF 'stripeslaw.Least'. -/
def leastUptoCard : Claim7 := { stood := { row := leastUptoRow, standIns := [], harness := (true, "fdb133e1d82655885727648344bff8f22285eceb3709ef141cd41a233e43aa87"), looks := true }, kinds := [], alts := [], laidByText := true, laidKinds := [.data, .handle], laidTests := true, laidLooks := .later }
def LeastUptoCardSaid : Prop := Claim7.holds Tryd.pinned (.plain (OpenSpec.upto leastSpec)) leastUptoCard
end Rows
end Go.Proofs.YthaamnjpjkkolabDoor
