/-
  No cell of these rows narrows 'for every input' (looked for: loops, veiled, ifaces, maps, wideKeys, modest, calm, conditions, laid).
  DERIVED. THE GIVEN ROWS OF THIS SEAT. 6 by the template 'for every input the law returns true; each argument reads behind the call as it read before'; 0 by the template 'total and deterministic' (their statements: YthaamnjpjkkolaaTotals.lean).
  GIVEN WITH THE SEED: the statements are not yours to turn. If you find one false, say at which input.
  Laid BY PROGRAM, IN A SANDBOX (cutbox-rows.mjs): the forced cells as the released guide's own fill.sh prints them over the translation 01bdb3c8b2534ec6… (all of the seat's roots in one cut). By AI agents, Wed Nov 11 2026. No macro, syntax, notation, axiom, sorry.
-/
import Derived.Test.YthaamnjpjkkolaaChecked
import GoSem.Claim
import GoSem.ClaimJoined
import GoSem.ClaimMapViews
import Derived.JoinedTies
import Derived.KernelRfl
namespace Go.Proofs.Ythaamnjpjkkolaa
/- THE CELL 'sum', in the pinned program and in every row, IS THE sha256 OF THE DUMP (.gsa) THAT YthaamnjpjkkolaaProg.lean LOADS. Nothing in Lean hashes anything: it is a label: what it is worth is what the hold of that sum in a sandbox is worth. -/
noncomputable def Try.pinned : Pinned := { name := "ythaamnjpjkkolaa", sum := "01bdb3c8b2534ec6985d53042ab3cffd5538080f8f0a05af98a68018dee43daa", checked := Try.checked }
namespace Rows
def none {H : Type} : Left H := { results := [], args := [] }

/-- 'stripeslaw.Names': WHATEVER THE INPUT: true; the input reads as it did. -/
def namesSpec : ChangeSpec := { name := "names", fn := fun _ => fun
  | [] => { results := [.lit (.bool true)], args := [] }
  | _ => none }
def namesRow : OpenClaim := { program := "ythaamnjpjkkolaa", sum := "01bdb3c8b2534ec6985d53042ab3cffd5538080f8f0a05af98a68018dee43daa", func := "stripes/stripeslaw.Names", spec := "names", apart := false }
def NamesSaid : Prop := namesRow.holds Try.pinned (OpenSpec.ofChange namesSpec)

/-- ITS FALSE NEIGHBOUR: 'it returns false'. Refute it at one input. -/
def namesWrong : ChangeSpec := { name := "names", fn := fun _ => fun
  | [] => { results := [.lit (.bool false)], args := [] }
  | _ => none }
def NamesWrongFalsely : Prop := namesRow.holds Try.pinned (OpenSpec.ofChange namesWrong)

/-- 'stripeslaw.Products': WHATEVER THE INPUT: true; the input reads as it did. -/
def productsSpec : ChangeSpec := { name := "products", fn := fun _ => fun
  | [d1, d2] => { results := [.lit (.bool true)], args := [d1, d2] }
  | _ => none }
def productsRow : OpenClaim := { program := "ythaamnjpjkkolaa", sum := "01bdb3c8b2534ec6985d53042ab3cffd5538080f8f0a05af98a68018dee43daa", func := "stripes/stripeslaw.Products", spec := "products", apart := false }
def ProductsSaid : Prop := productsRow.holds Try.pinned (OpenSpec.ofChange productsSpec)

/-- ITS FALSE NEIGHBOUR: 'it returns false'. Refute it at one input. -/
def productsWrong : ChangeSpec := { name := "products", fn := fun _ => fun
  | [d1, d2] => { results := [.lit (.bool false)], args := [d1, d2] }
  | _ => none }
def ProductsWrongFalsely : Prop := productsRow.holds Try.pinned (OpenSpec.ofChange productsWrong)

/-- 'stripeslaw.Fields': WHATEVER THE INPUT: true; the input reads as it did. -/
def fieldsSpec : ChangeSpec := { name := "fields", fn := fun _ => fun
  | [d1, d2, d3] => { results := [.lit (.bool true)], args := [d1, d2, d3] }
  | _ => none }
def fieldsRow : OpenClaim := { program := "ythaamnjpjkkolaa", sum := "01bdb3c8b2534ec6985d53042ab3cffd5538080f8f0a05af98a68018dee43daa", func := "stripes/stripeslaw.Fields", spec := "fields", apart := false }
def FieldsSaid : Prop := fieldsRow.holds Try.pinned (OpenSpec.ofChange fieldsSpec)

/-- ITS FALSE NEIGHBOUR: 'it returns false'. Refute it at one input. -/
def fieldsWrong : ChangeSpec := { name := "fields", fn := fun _ => fun
  | [d1, d2, d3] => { results := [.lit (.bool false)], args := [d1, d2, d3] }
  | _ => none }
def FieldsWrongFalsely : Prop := fieldsRow.holds Try.pinned (OpenSpec.ofChange fieldsWrong)

/-- 'stripeslaw.Ranks': WHATEVER THE INPUT: true; the input reads as it did. -/
def ranksSpec : ChangeSpec := { name := "ranks", fn := fun _ => fun
  | [d] => { results := [.lit (.bool true)], args := [d] }
  | _ => none }
def ranksRow : OpenClaim := { program := "ythaamnjpjkkolaa", sum := "01bdb3c8b2534ec6985d53042ab3cffd5538080f8f0a05af98a68018dee43daa", func := "stripes/stripeslaw.Ranks", spec := "ranks", apart := false }
def RanksSaid : Prop := ranksRow.holds Try.pinned (OpenSpec.ofChange ranksSpec)

/-- ITS FALSE NEIGHBOUR: 'it returns false'. Refute it at one input. -/
def ranksWrong : ChangeSpec := { name := "ranks", fn := fun _ => fun
  | [d] => { results := [.lit (.bool false)], args := [d] }
  | _ => none }
def RanksWrongFalsely : Prop := ranksRow.holds Try.pinned (OpenSpec.ofChange ranksWrong)

/-- 'stripeslaw.Decodables': WHATEVER THE INPUT: true; the input reads as it did. -/
def decodablesSpec : ChangeSpec := { name := "decodables", fn := fun _ => fun
  | [d1, d2] => { results := [.lit (.bool true)], args := [d1, d2] }
  | _ => none }
def decodablesRow : OpenClaim := { program := "ythaamnjpjkkolaa", sum := "01bdb3c8b2534ec6985d53042ab3cffd5538080f8f0a05af98a68018dee43daa", func := "stripes/stripeslaw.Decodables", spec := "decodables", unfollowed := true, recurses := true, apart := false }
def DecodablesSaid : Prop := decodablesRow.holds Try.pinned (OpenSpec.ofChange decodablesSpec)

/-- ITS FALSE NEIGHBOUR: 'it returns false'. Refute it at one input. -/
def decodablesWrong : ChangeSpec := { name := "decodables", fn := fun _ => fun
  | [d1, d2] => { results := [.lit (.bool false)], args := [d1, d2] }
  | _ => none }
def DecodablesWrongFalsely : Prop := decodablesRow.holds Try.pinned (OpenSpec.ofChange decodablesWrong)

/-- 'stripeslaw.Any': WHATEVER THE INPUT: true; the input reads as it did. -/
def anySpec : ChangeSpec := { name := "any", fn := fun _ => fun
  | [d1, d2, d3] => { results := [.lit (.bool true)], args := [d1, d2, d3] }
  | _ => none }
def anyRow : OpenClaim := { program := "ythaamnjpjkkolaa", sum := "01bdb3c8b2534ec6985d53042ab3cffd5538080f8f0a05af98a68018dee43daa", func := "stripes/stripeslaw.Any", spec := "any", unfollowed := true, recurses := true, apart := false }
def AnySaid : Prop := anyRow.holds Try.pinned (OpenSpec.ofChange anySpec)

/-- ITS FALSE NEIGHBOUR: 'it returns false'. Refute it at one input. -/
def anyWrong : ChangeSpec := { name := "any", fn := fun _ => fun
  | [d1, d2, d3] => { results := [.lit (.bool false)], args := [d1, d2, d3] }
  | _ => none }
def AnyWrongFalsely : Prop := anyRow.holds Try.pinned (OpenSpec.ofChange anyWrong)

/- THE SECOND FORM. 'bulk': how many values and letters a reading holds, each counted each time it is reached (what is shared counts as often as it is met; a slice's spare places count too). A statement '..UptoSaid' is the law's where the arguments, and the package variables that the reading takes, are together of bulk at most 1048576: NARROWER than '..Said'. Prove '..Said' where nothing that the law and all that it calls make is longer than what came in: it says more and counts as full. Else prove '..UptoSaid'. A law counts once. -/
mutual
def uptoBulk {H : Type} : DataW H → Nat
  | .lit (.string bytes) => bytes.length + 1
  | .lit _ => 1
  | .nil => 1
  | .ptr d => uptoBulk d + 1
  | .slice elems spare => uptoBulkAll elems + uptoBulkAll spare + 1
  | .agg parts => uptoBulkAll parts + 1
  | .iface _ d => uptoBulk d + 1
  | .map entries => uptoBulkEntries entries + 1
  | .held _ => 1
def uptoBulkAll {H : Type} : List (DataW H) → Nat
  | [] => 0
  | d :: r => uptoBulk d + uptoBulkAll r
def uptoBulkEntries {H : Type} : List (Lit × DataW H) → Nat
  | [] => 0
  | x :: r => uptoBulkEntry x + uptoBulkEntries r
def uptoBulkEntry {H : Type} : Lit × DataW H → Nat
  | (.string bytes, d) => bytes.length + uptoBulk d + 1
  | (_, d) => uptoBulk d + 1
 end
def uptoSmall : (H : Type) → List (DataW H) → Bool := fun _ ds => decide (uptoBulkAll ds ≤ 1048576)
def OpenSpec.upto (s : _root_.Go.ChangeSpec) : _root_.Go.OpenSpec := { _root_.Go.OpenSpec.ofChange s with cond := some uptoSmall }

/-- 'stripeslaw.Names', WHERE WHAT IT READS IS OF BULK AT MOST 1048576: true; the input reads as it did. -/
def namesUptoRow : OpenClaim := { program := "ythaamnjpjkkolaa", sum := "01bdb3c8b2534ec6985d53042ab3cffd5538080f8f0a05af98a68018dee43daa", func := "stripes/stripeslaw.Names", spec := "names", apart := false, narrowed := true }
def NamesUptoSaid : Prop := namesUptoRow.holds Try.pinned (OpenSpec.upto namesSpec)

/-- 'stripeslaw.Products', WHERE WHAT IT READS IS OF BULK AT MOST 1048576: true; the input reads as it did. -/
def productsUptoRow : OpenClaim := { program := "ythaamnjpjkkolaa", sum := "01bdb3c8b2534ec6985d53042ab3cffd5538080f8f0a05af98a68018dee43daa", func := "stripes/stripeslaw.Products", spec := "products", apart := false, narrowed := true }
def ProductsUptoSaid : Prop := productsUptoRow.holds Try.pinned (OpenSpec.upto productsSpec)

/-- 'stripeslaw.Fields', WHERE WHAT IT READS IS OF BULK AT MOST 1048576: true; the input reads as it did. -/
def fieldsUptoRow : OpenClaim := { program := "ythaamnjpjkkolaa", sum := "01bdb3c8b2534ec6985d53042ab3cffd5538080f8f0a05af98a68018dee43daa", func := "stripes/stripeslaw.Fields", spec := "fields", apart := false, narrowed := true }
def FieldsUptoSaid : Prop := fieldsUptoRow.holds Try.pinned (OpenSpec.upto fieldsSpec)

/-- 'stripeslaw.Ranks', WHERE WHAT IT READS IS OF BULK AT MOST 1048576: true; the input reads as it did. -/
def ranksUptoRow : OpenClaim := { program := "ythaamnjpjkkolaa", sum := "01bdb3c8b2534ec6985d53042ab3cffd5538080f8f0a05af98a68018dee43daa", func := "stripes/stripeslaw.Ranks", spec := "ranks", apart := false, narrowed := true }
def RanksUptoSaid : Prop := ranksUptoRow.holds Try.pinned (OpenSpec.upto ranksSpec)

/-- 'stripeslaw.Decodables', WHERE WHAT IT READS IS OF BULK AT MOST 1048576: true; the input reads as it did. -/
def decodablesUptoRow : OpenClaim := { program := "ythaamnjpjkkolaa", sum := "01bdb3c8b2534ec6985d53042ab3cffd5538080f8f0a05af98a68018dee43daa", func := "stripes/stripeslaw.Decodables", spec := "decodables", unfollowed := true, recurses := true, apart := false, narrowed := true }
def DecodablesUptoSaid : Prop := decodablesUptoRow.holds Try.pinned (OpenSpec.upto decodablesSpec)

/-- 'stripeslaw.Any', WHERE WHAT IT READS IS OF BULK AT MOST 1048576: true; the input reads as it did. -/
def anyUptoRow : OpenClaim := { program := "ythaamnjpjkkolaa", sum := "01bdb3c8b2534ec6985d53042ab3cffd5538080f8f0a05af98a68018dee43daa", func := "stripes/stripeslaw.Any", spec := "any", unfollowed := true, recurses := true, apart := false, narrowed := true }
def AnyUptoSaid : Prop := anyUptoRow.holds Try.pinned (OpenSpec.upto anySpec)

end Rows
end Go.Proofs.Ythaamnjpjkkolaa
