/-
  DERIVED. GIVEN WITH THE SEED: THE CARDS: each row of YthaamnjpjkkolaaDoorRows.lean that lists a variable, with what it lists TIED to the program's text (the seventh form; the later family's looks); each row that meets fmt, with fmt's text TOLD by the authors' own Lean function (tested against real Go, not proved from fmt's source: count such statements apart). THE CARD IS WHAT COUNTS. Prove the row's statement (the work); the ties are given (YthaamnjpjkkolaaDoorTie.lean); close each card by the builder's one call (the guide's Derived/Test/ToyasCard.lean, 'card_holds'). Laid BY PROGRAM, IN A SANDBOX (cutbox-door.mjs). By AI agents, Wed Nov 11 2026. No macro, syntax, notation, axiom, sorry.
-/
import Derived.Test.YthaamnjpjkkolaaDoorRows
import GoSem.ClaimSeven
namespace Go.Proofs.YthaamnjpjkkolaaDoor
namespace Rows

/-- THE TIED CARD OF 'stripeslaw.Checks'. -/
def checksCard : Claim7 := { stood := { row := checksRow, standIns := [], harness := (true, "2db0c98912be22f2c4f23bf95e9d9ca05e4b6b3b5d73e0dda6923fcc65d82b9d"), looks := true }, kinds := [], alts := [], laidByText := true, laidKinds := [.handle], laidTests := true, laidLooks := .later }
def ChecksCardSaid : Prop := Claim7.holds Tryd.pinned (.plain (OpenSpec.ofChange checksSpec)) checksCard

/-- THE TIED CARD OF 'stripeslaw.Packs'. -/
def packsCard : Claim7 := { stood := { row := packsRow, standIns := [], harness := (true, "2db0c98912be22f2c4f23bf95e9d9ca05e4b6b3b5d73e0dda6923fcc65d82b9d"), looks := true }, kinds := [], alts := [], laidByText := true, laidKinds := [.handle], laidTests := true, laidLooks := .later }
def PacksCardSaid : Prop := Claim7.holds Tryd.pinned (.plain (OpenSpec.ofChange packsSpec)) packsCard

/-- THE TIED CARD OF 'stripeslaw.Matrices'. -/
def matricesCard : Claim7 := { stood := { row := matricesRow, standIns := [], harness := (true, "2db0c98912be22f2c4f23bf95e9d9ca05e4b6b3b5d73e0dda6923fcc65d82b9d"), looks := true }, kinds := [], alts := [], laidByText := true, laidKinds := [.handle], laidTests := true, laidLooks := .later }
def MatricesCardSaid : Prop := Claim7.holds Tryd.pinned (.plain (OpenSpec.ofChange matricesSpec)) matricesCard

/-- THE TIED CARD OF 'stripeslaw.Encodes'. -/
def encodesCard : Claim7 := { stood := { row := encodesRow, standIns := [], harness := (true, "2db0c98912be22f2c4f23bf95e9d9ca05e4b6b3b5d73e0dda6923fcc65d82b9d"), looks := true }, kinds := [], alts := [], laidByText := true, laidKinds := [.handle], laidTests := true, laidLooks := .later }
def EncodesCardSaid : Prop := Claim7.holds Tryd.pinned (.plain (OpenSpec.ofChange encodesSpec)) encodesCard

/-- THE SECOND FORM's CARD OF 'stripeslaw.Checks'. -/
def checksUptoCard : Claim7 := { stood := { row := checksUptoRow, standIns := [], harness := (true, "2db0c98912be22f2c4f23bf95e9d9ca05e4b6b3b5d73e0dda6923fcc65d82b9d"), looks := true }, kinds := [], alts := [], laidByText := true, laidKinds := [.handle], laidTests := true, laidLooks := .later }
def ChecksUptoCardSaid : Prop := Claim7.holds Tryd.pinned (.plain (OpenSpec.upto checksSpec)) checksUptoCard

/-- THE SECOND FORM's CARD OF 'stripeslaw.Packs'. -/
def packsUptoCard : Claim7 := { stood := { row := packsUptoRow, standIns := [], harness := (true, "2db0c98912be22f2c4f23bf95e9d9ca05e4b6b3b5d73e0dda6923fcc65d82b9d"), looks := true }, kinds := [], alts := [], laidByText := true, laidKinds := [.handle], laidTests := true, laidLooks := .later }
def PacksUptoCardSaid : Prop := Claim7.holds Tryd.pinned (.plain (OpenSpec.upto packsSpec)) packsUptoCard

/-- THE SECOND FORM's CARD OF 'stripeslaw.Matrices'. -/
def matricesUptoCard : Claim7 := { stood := { row := matricesUptoRow, standIns := [], harness := (true, "2db0c98912be22f2c4f23bf95e9d9ca05e4b6b3b5d73e0dda6923fcc65d82b9d"), looks := true }, kinds := [], alts := [], laidByText := true, laidKinds := [.handle], laidTests := true, laidLooks := .later }
def MatricesUptoCardSaid : Prop := Claim7.holds Tryd.pinned (.plain (OpenSpec.upto matricesSpec)) matricesUptoCard

/-- THE SECOND FORM's CARD OF 'stripeslaw.Encodes'. -/
def encodesUptoCard : Claim7 := { stood := { row := encodesUptoRow, standIns := [], harness := (true, "2db0c98912be22f2c4f23bf95e9d9ca05e4b6b3b5d73e0dda6923fcc65d82b9d"), looks := true }, kinds := [], alts := [], laidByText := true, laidKinds := [.handle], laidTests := true, laidLooks := .later }
def EncodesUptoCardSaid : Prop := Claim7.holds Tryd.pinned (.plain (OpenSpec.upto encodesSpec)) encodesUptoCard
end Rows
end Go.Proofs.YthaamnjpjkkolaaDoor
