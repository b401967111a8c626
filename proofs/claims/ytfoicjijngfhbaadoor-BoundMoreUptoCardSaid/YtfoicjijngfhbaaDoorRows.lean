/-
  NARROWER THAN 'FOR EVERY INPUT', by the rows' own cells (each row's printed sentence says how): BoundNumbers: laid · BoundMore: laid.
  DERIVED. THE GIVEN ROWS OF THIS SEAT. 2 by the template 'for every input the law returns true; each argument reads behind the call as it read before'; 0 by the template 'total and deterministic' (their statements: YtfoicjijngfhbaaDoorTotals.lean).
  GIVEN WITH THE SEED: the statements are not yours to turn. If you find one false, say at which input.
  Laid BY PROGRAM, IN A SANDBOX (cutbox-rows.mjs): the forced cells as the released guide's own fill.sh prints them over the translation fcf0138ce412aab7… (all of the seat's roots in one cut). By AI agents, Wed Nov 11 2026. No macro, syntax, notation, axiom, sorry.
-/
import Derived.Test.YtfoicjijngfhbaaDoorChecked
import GoSem.Claim
import GoSem.ClaimJoined
import GoSem.ClaimMapViews
import Derived.JoinedTies
import Derived.KernelRfl
namespace Go.Proofs.YtfoicjijngfhbaaDoor
/- THE CELL 'sum', in the pinned program and in every row, IS THE sha256 OF THE DUMP (.gsa) THAT YtfoicjijngfhbaaDoorProg.lean LOADS. Nothing in Lean hashes anything: it is a label: what it is worth is what the hold of that sum in a sandbox is worth. -/
noncomputable def Tryd.pinned : Pinned := { name := "ytfoicjijngfhbaadoor", sum := "fcf0138ce412aab7d5c9a1a184ccb6e1bd764d97e06044662bc8a7a851ae8dc1", checked := Tryd.checked }
namespace Rows
def none {H : Type} : Left H := { results := [], args := [] }

/- WHAT THE LISTED PACKAGE-LEVEL VARIABLES READ AS WHEN THE CALL BEGINS. Each datum BY PROGRAM (the guide's laid-datum.mjs) off the statement by which the dump's own 'gosem.cut.vars' lays the variable. In a bare row this is a premise. The card (YtfoicjijngfhbaaDoorCards.lean) ties it to the program's text. -/
def laid_honeycomb_script_takes {H : Type} : DataW H := .agg [.lit (.int .i64 (-1)), .lit (.int .i64 1), .lit (.int .i64 2), .lit (.int .i64 1), .lit (.int .i64 3), .lit (.int .i64 2), .lit (.int .i64 0), .lit (.int .i64 0)]

/-- 'honeycomblaw29.BoundNumbers': WHATEVER THE INPUT: true; the input reads as it did. -/
def boundNumbersSpec : ChangeSpec := { name := "boundNumbers", fn := fun _ => fun
  | [d] => { results := [.lit (.bool true)], args := [d] }
  | _ => none }
def boundNumbersRow : OpenClaim := { program := "ytfoicjijngfhbaadoor", sum := "fcf0138ce412aab7d5c9a1a184ccb6e1bd764d97e06044662bc8a7a851ae8dc1", func := "honeycomb/honeycomblaw29.BoundNumbers", spec := "boundNumbers", unfollowed := true, recurses := true, named := ["honeycomb/script.takes"], apart := false, laid := [("honeycomb/script.takes", laid_honeycomb_script_takes)] }
def BoundNumbersSaid : Prop := boundNumbersRow.holds Tryd.pinned (OpenSpec.ofChange boundNumbersSpec)

/-- ITS FALSE NEIGHBOUR: 'it returns false'. Refute it at one input. -/
def boundNumbersWrong : ChangeSpec := { name := "boundNumbers", fn := fun _ => fun
  | [d] => { results := [.lit (.bool false)], args := [d] }
  | _ => none }
def BoundNumbersWrongFalsely : Prop := boundNumbersRow.holds Tryd.pinned (OpenSpec.ofChange boundNumbersWrong)

/-- 'honeycomblaw29.BoundMore': WHATEVER THE INPUT: true; the input reads as it did. -/
def boundMoreSpec : ChangeSpec := { name := "boundMore", fn := fun _ => fun
  | [d1, d2, d3] => { results := [.lit (.bool true)], args := [d1, d2, d3] }
  | _ => none }
def boundMoreRow : OpenClaim := { program := "ytfoicjijngfhbaadoor", sum := "fcf0138ce412aab7d5c9a1a184ccb6e1bd764d97e06044662bc8a7a851ae8dc1", func := "honeycomb/honeycomblaw29.BoundMore", spec := "boundMore", unfollowed := true, recurses := true, named := ["honeycomb/script.takes"], apart := false, laid := [("honeycomb/script.takes", laid_honeycomb_script_takes)] }
def BoundMoreSaid : Prop := boundMoreRow.holds Tryd.pinned (OpenSpec.ofChange boundMoreSpec)

/-- ITS FALSE NEIGHBOUR: 'it returns false'. Refute it at one input. -/
def boundMoreWrong : ChangeSpec := { name := "boundMore", fn := fun _ => fun
  | [d1, d2, d3] => { results := [.lit (.bool false)], args := [d1, d2, d3] }
  | _ => none }
def BoundMoreWrongFalsely : Prop := boundMoreRow.holds Tryd.pinned (OpenSpec.ofChange boundMoreWrong)

/- THE SECOND FORM. 'bulk': how many values and letters a reading holds, each counted each time it is reached (what is shared counts as often as it is met; a slice's spare places count too). A statement '..UptoSaid' is the law's where the arguments, and the package variables that the reading takes, are together of bulk at most 1048576: NARROWER than '..Said'. Prove '..Said' where nothing that the law and all that it calls make is longer than what came in: it says more and counts as full. Else prove '..UptoSaid'. A law counts once. -/
mutual
def uptoBulk {H : Type} : DataW H → Nat
  | .lit (.string bytes) => bytes.length + 1
  | .lit _ => 1
  | .nil => 1
  | .ptr d => uptoBulk d + 1
  | .slice elems spare => uptoBulkAll elems + uptoBulkAll spare + 1
  | .agg parts => uptoBulkAll parts + 1
  | .iface _ d => uptoBulk d + 1
  | .map entries => uptoBulkEntries entries + 1
  | .held _ => 1
def uptoBulkAll {H : Type} : List (DataW H) → Nat
  | [] => 0
  | d :: r => uptoBulk d + uptoBulkAll r
def uptoBulkEntries {H : Type} : List (Lit × DataW H) → Nat
  | [] => 0
  | x :: r => uptoBulkEntry x + uptoBulkEntries r
def uptoBulkEntry {H : Type} : Lit × DataW H → Nat
  | (.string bytes, d) => bytes.length + uptoBulk d + 1
  | (_, d) => uptoBulk d + 1
 end
def uptoSmall : (H : Type) → List (DataW H) → Bool := fun _ ds => decide (uptoBulkAll ds ≤ 1048576)
def OpenSpec.upto (s : _root_.Go.ChangeSpec) : _root_.Go.OpenSpec := { _root_.Go.OpenSpec.ofChange s with cond := some uptoSmall }

/-- 'honeycomblaw29.BoundNumbers', WHERE WHAT IT READS IS OF BULK AT MOST 1048576: true; the input reads as it did. -/
def boundNumbersUptoRow : OpenClaim := { program := "ytfoicjijngfhbaadoor", sum := "fcf0138ce412aab7d5c9a1a184ccb6e1bd764d97e06044662bc8a7a851ae8dc1", func := "honeycomb/honeycomblaw29.BoundNumbers", spec := "boundNumbers", unfollowed := true, recurses := true, named := ["honeycomb/script.takes"], apart := false, laid := [("honeycomb/script.takes", laid_honeycomb_script_takes)], narrowed := true }
def BoundNumbersUptoSaid : Prop := boundNumbersUptoRow.holds Tryd.pinned (OpenSpec.upto boundNumbersSpec)

/-- 'honeycomblaw29.BoundMore', WHERE WHAT IT READS IS OF BULK AT MOST 1048576: true; the input reads as it did. -/
def boundMoreUptoRow : OpenClaim := { program := "ytfoicjijngfhbaadoor", sum := "fcf0138ce412aab7d5c9a1a184ccb6e1bd764d97e06044662bc8a7a851ae8dc1", func := "honeycomb/honeycomblaw29.BoundMore", spec := "boundMore", unfollowed := true, recurses := true, named := ["honeycomb/script.takes"], apart := false, laid := [("honeycomb/script.takes", laid_honeycomb_script_takes)], narrowed := true }
def BoundMoreUptoSaid : Prop := boundMoreUptoRow.holds Tryd.pinned (OpenSpec.upto boundMoreSpec)

end Rows
end Go.Proofs.YtfoicjijngfhbaaDoor
