/-
  DERIVED. GIVEN WITH THE SEED: THE CARDS: each row of YtonfdlhikinldaaGreatDoorRows.lean that lists a variable, with what it lists TIED to the program's text (the seventh form; the later family's looks); each row that meets fmt, with fmt's text TOLD by the authors' own Lean function (tested against real Go, not proved from fmt's source: count such statements apart). THE CARD IS WHAT COUNTS. Prove the row's statement (the work); the ties are given (YtonfdlhikinldaaGreatDoorTie.lean); close each card by the builder's one call (the guide's Derived/Test/ToyasCard.lean, 'card_holds'). Laid BY PROGRAM, IN A SANDBOX (cutbox-door.mjs). By AI agents, Wed Nov 11 2026. No macro, syntax, notation, axiom, sorry.
-/
import Derived.Test.YtonfdlhikinldaaGreatDoorRows
import GoSem.ClaimSeven
namespace Go.Proofs.YtonfdlhikinldaaGreatDoor
namespace Rows

/-- THE TIED CARD OF 'stripeslaw.Garbage'. -/
def garbageCard : Claim7 := { stood := { row := garbageRow, standIns := [], harness := (true, "75106a807bb98e60f7db25beb389f0c7f83117ef3fccfe373fc142c2a4f78891"), looks := true }, kinds := [], alts := [], laidByText := true, laidKinds := [.data, .handle], laidTests := true, laidLooks := .later }
def GarbageCardSaid : Prop := Claim7.holds Tryz.pinned (.plain (OpenSpec.ofChange garbageSpec)) garbageCard

/-- THE SECOND FORM's CARD OF 'stripeslaw.Garbage'. -/
def garbageUptoCard : Claim7 := { stood := { row := garbageUptoRow, standIns := [], harness := (true, "75106a807bb98e60f7db25beb389f0c7f83117ef3fccfe373fc142c2a4f78891"), looks := true }, kinds := [], alts := [], laidByText := true, laidKinds := [.data, .handle], laidTests := true, laidLooks := .later }
def GarbageUptoCardSaid : Prop := Claim7.holds Tryz.pinned (.plain (OpenSpec.upto garbageSpec)) garbageUptoCard
end Rows
end Go.Proofs.YtonfdlhikinldaaGreatDoor
