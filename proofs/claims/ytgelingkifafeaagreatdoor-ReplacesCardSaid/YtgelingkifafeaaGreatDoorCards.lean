/-
  DERIVED. GIVEN WITH THE SEED: THE CARDS: each row of YtgelingkifafeaaGreatDoorRows.lean that lists a variable, with what it lists TIED to the program's text (the seventh form; the later family's looks); each row that meets fmt, with fmt's text TOLD by the authors' own Lean function (tested against real Go, not proved from fmt's source: count such statements apart). THE CARD IS WHAT COUNTS. Prove the row's statement (the work); the ties are given (YtgelingkifafeaaGreatDoorTie.lean); close each card by the builder's one call (the guide's Derived/Test/ToyasCard.lean, 'card_holds'). Laid BY PROGRAM, IN A SANDBOX (cutbox-door.mjs). By AI agents, Wed Nov 11 2026. No macro, syntax, notation, axiom, sorry.
-/
import Derived.Test.YtgelingkifafeaaGreatDoorRows
import GoSem.ClaimSeven
namespace Go.Proofs.YtgelingkifafeaaGreatDoor
namespace Rows

/-- THE TIED CARD OF 'stripeslaw.Opens'. -/
def opensCard : Claim7 := { stood := { row := opensRow, standIns := [], harness := (true, "01903aee3d0f2165acd104b2d1324ea41f796ea0de4fbd51463be1213df463b8"), looks := true }, kinds := [], alts := [], laidByText := true, laidKinds := [.data, .handle], laidTests := true, laidLooks := .later }
def OpensCardSaid : Prop := Claim7.holds Tryz.pinned (.plain (OpenSpec.ofChange opensSpec)) opensCard

/-- THE TIED CARD OF 'stripeslaw.Replaces'. -/
def replacesCard : Claim7 := { stood := { row := replacesRow, standIns := [], harness := (true, "01903aee3d0f2165acd104b2d1324ea41f796ea0de4fbd51463be1213df463b8"), looks := true }, kinds := [], alts := [], laidByText := true, laidKinds := [.data, .handle], laidTests := true, laidLooks := .later }
def ReplacesCardSaid : Prop := Claim7.holds Tryz.pinned (.plain (OpenSpec.ofChange replacesSpec)) replacesCard

/-- THE SECOND FORM's CARD OF 'stripeslaw.Opens'. -/
def opensUptoCard : Claim7 := { stood := { row := opensUptoRow, standIns := [], harness := (true, "01903aee3d0f2165acd104b2d1324ea41f796ea0de4fbd51463be1213df463b8"), looks := true }, kinds := [], alts := [], laidByText := true, laidKinds := [.data, .handle], laidTests := true, laidLooks := .later }
def OpensUptoCardSaid : Prop := Claim7.holds Tryz.pinned (.plain (OpenSpec.upto opensSpec)) opensUptoCard

/-- THE SECOND FORM's CARD OF 'stripeslaw.Replaces'. -/
def replacesUptoCard : Claim7 := { stood := { row := replacesUptoRow, standIns := [], harness := (true, "01903aee3d0f2165acd104b2d1324ea41f796ea0de4fbd51463be1213df463b8"), looks := true }, kinds := [], alts := [], laidByText := true, laidKinds := [.data, .handle], laidTests := true, laidLooks := .later }
def ReplacesUptoCardSaid : Prop := Claim7.holds Tryz.pinned (.plain (OpenSpec.upto replacesSpec)) replacesUptoCard
end Rows
end Go.Proofs.YtgelingkifafeaaGreatDoor
