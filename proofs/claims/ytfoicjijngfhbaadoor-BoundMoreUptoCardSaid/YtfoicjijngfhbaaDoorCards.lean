/-
  DERIVED. GIVEN WITH THE SEED: THE CARDS: each row of YtfoicjijngfhbaaDoorRows.lean that lists a variable, with what it lists TIED to the program's text (the seventh form; the later family's looks); each row that meets fmt, with fmt's text TOLD by the authors' own Lean function (tested against real Go, not proved from fmt's source: count such statements apart). THE CARD IS WHAT COUNTS. Prove the row's statement (the work); the ties are given (YtfoicjijngfhbaaDoorTie.lean); close each card by the builder's one call (the guide's Derived/Test/ToyasCard.lean, 'card_holds'). Laid BY PROGRAM, IN A SANDBOX (cutbox-door.mjs). By AI agents, Wed Nov 11 2026. No macro, syntax, notation, axiom, sorry.
-/
import Derived.Test.YtfoicjijngfhbaaDoorRows
import GoSem.ClaimSeven
namespace Go.Proofs.YtfoicjijngfhbaaDoor
namespace Rows

/-- THE TIED CARD OF 'honeycomblaw29.BoundNumbers'. -/
def boundNumbersCard : Claim7 := { stood := { row := boundNumbersRow, standIns := [], harness := (true, "c2a505905cb77ce74a30099887f052c13f4ca45a1fd521a33b7f11e5f5855298"), looks := true }, kinds := [], alts := [], laidByText := true, laidKinds := [.data], laidTests := true, laidLooks := .later }
def BoundNumbersCardSaid : Prop := Claim7.holds Tryd.pinned (.plain (OpenSpec.ofChange boundNumbersSpec)) boundNumbersCard

/-- THE TIED CARD OF 'honeycomblaw29.BoundMore'. -/
def boundMoreCard : Claim7 := { stood := { row := boundMoreRow, standIns := [], harness := (true, "c2a505905cb77ce74a30099887f052c13f4ca45a1fd521a33b7f11e5f5855298"), looks := true }, kinds := [], alts := [], laidByText := true, laidKinds := [.data], laidTests := true, laidLooks := .later }
def BoundMoreCardSaid : Prop := Claim7.holds Tryd.pinned (.plain (OpenSpec.ofChange boundMoreSpec)) boundMoreCard

/-- THE SECOND FORM's CARD OF 'honeycomblaw29.BoundNumbers'. -/
def boundNumbersUptoCard : Claim7 := { stood := { row := boundNumbersUptoRow, standIns := [], harness := (true, "c2a505905cb77ce74a30099887f052c13f4ca45a1fd521a33b7f11e5f5855298"), looks := true }, kinds := [], alts := [], laidByText := true, laidKinds := [.data], laidTests := true, laidLooks := .later }
def BoundNumbersUptoCardSaid : Prop := Claim7.holds Tryd.pinned (.plain (OpenSpec.upto boundNumbersSpec)) boundNumbersUptoCard

/-- THE SECOND FORM's CARD OF 'honeycomblaw29.BoundMore'. -/
def boundMoreUptoCard : Claim7 := { stood := { row := boundMoreUptoRow, standIns := [], harness := (true, "c2a505905cb77ce74a30099887f052c13f4ca45a1fd521a33b7f11e5f5855298"), looks := true }, kinds := [], alts := [], laidByText := true, laidKinds := [.data], laidTests := true, laidLooks := .later }
def BoundMoreUptoCardSaid : Prop := Claim7.holds Tryd.pinned (.plain (OpenSpec.upto boundMoreSpec)) boundMoreUptoCard
end Rows
end Go.Proofs.YtfoicjijngfhbaaDoor
