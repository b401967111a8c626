/-
  DERIVED. GIVEN WITH THE SEED: THE CARDS: each row of YtfoicjijngfhbaaGreatDoorRows.lean that lists a variable, with what it lists TIED to the program's text (the seventh form; the later family's looks); each row that meets fmt, with fmt's text TOLD by the authors' own Lean function (tested against real Go, not proved from fmt's source: count such statements apart). THE CARD IS WHAT COUNTS. Prove the row's statement (the work); the ties are given (YtfoicjijngfhbaaGreatDoorTie.lean); close each card by the builder's one call (the guide's Derived/Test/ToyasCard.lean, 'card_holds'). Laid BY PROGRAM, IN A SANDBOX (cutbox-door.mjs). By AI agents, Wed Nov 11 2026. No macro, syntax, notation, axiom, sorry.
-/
import Derived.Test.YtfoicjijngfhbaaGreatDoorRows
import GoSem.ClaimSeven
namespace Go.Proofs.YtfoicjijngfhbaaGreatDoor
namespace Rows

/-- THE TIED CARD OF 'honeycomblaw29.BoundScripts'. -/
def boundScriptsCard : Claim7 := { stood := { row := boundScriptsRow, standIns := [], harness := (true, "9f0726689ca40258222667c56fc2f5b6b8d0197b851246268ec3e2c53c573adc"), looks := true }, kinds := [], alts := [], laidByText := true, laidKinds := [.data], laidTests := true, laidLooks := .later }
def BoundScriptsCardSaid : Prop := Claim7.holds Tryz.pinned (.plain (OpenSpec.ofChange boundScriptsSpec)) boundScriptsCard

/-- THE SECOND FORM's CARD OF 'honeycomblaw29.BoundScripts'. -/
def boundScriptsUptoCard : Claim7 := { stood := { row := boundScriptsUptoRow, standIns := [], harness := (true, "9f0726689ca40258222667c56fc2f5b6b8d0197b851246268ec3e2c53c573adc"), looks := true }, kinds := [], alts := [], laidByText := true, laidKinds := [.data], laidTests := true, laidLooks := .later }
def BoundScriptsUptoCardSaid : Prop := Claim7.holds Tryz.pinned (.plain (OpenSpec.upto boundScriptsSpec)) boundScriptsUptoCard
end Rows
end Go.Proofs.YtfoicjijngfhbaaGreatDoor
