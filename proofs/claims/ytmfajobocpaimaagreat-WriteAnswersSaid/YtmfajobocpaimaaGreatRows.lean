/-
  No cell of these rows narrows 'for every input' (looked for: loops, veiled, ifaces, maps, wideKeys, modest, calm, conditions, laid).
  DERIVED. THE GIVEN ROWS OF THIS SEAT. 11 by the template 'for every input the law returns true; each argument reads behind the call as it read before'; 0 by the template 'total and deterministic' (their statements: YtmfajobocpaimaaGreatTotals.lean).
  GIVEN WITH THE SEED: the statements are not yours to turn. If you find one false, say at which input.
  Laid BY PROGRAM, IN A SANDBOX (cutbox-rows.mjs): the forced cells as the released guide's own fill.sh prints them over the translation 7a99d6d6becb8417… (all of the seat's roots in one cut). By AI agents, Wed Nov 11 2026. No macro, syntax, notation, axiom, sorry.
-/
import Derived.Test.YtmfajobocpaimaaGreatChecked
import GoSem.Claim
import GoSem.ClaimJoined
import GoSem.ClaimMapViews
import Derived.JoinedTies
import Derived.KernelRfl
namespace Go.Proofs.YtmfajobocpaimaaGreat
/- THE CELL 'sum', in the pinned program and in every row, IS THE sha256 OF THE DUMP (.gsa) THAT YtmfajobocpaimaaGreatProg.lean LOADS. Nothing in Lean hashes anything: it is a label: what it is worth is what the hold of that sum in a sandbox is worth. -/
noncomputable def Tryz.pinned : Pinned := { name := "ytmfajobocpaimaagreat", sum := "7a99d6d6becb8417ecbd16876d5d537d945afe602c5feb87c1210f247e2ecfba", checked := Tryz.checked }
namespace Rows
def none {H : Type} : Left H := { results := [], args := [] }

/-- 'honeycomblaw17.TableLays': WHATEVER THE INPUT: true; the input reads as it did. -/
def tableLaysSpec : ChangeSpec := { name := "tableLays", fn := fun _ => fun
  | [d1, d2, d3] => { results := [.lit (.bool true)], args := [d1, d2, d3] }
  | _ => none }
def tableLaysRow : OpenClaim := { program := "ytmfajobocpaimaagreat", sum := "7a99d6d6becb8417ecbd16876d5d537d945afe602c5feb87c1210f247e2ecfba", func := "honeycomb/honeycomblaw17.TableLays", spec := "tableLays", unfollowed := true, recurses := true, apart := false }
def TableLaysSaid : Prop := tableLaysRow.holds Tryz.pinned (OpenSpec.ofChange tableLaysSpec)

/-- ITS FALSE NEIGHBOUR: 'it returns false'. Refute it at one input. -/
def tableLaysWrong : ChangeSpec := { name := "tableLays", fn := fun _ => fun
  | [d1, d2, d3] => { results := [.lit (.bool false)], args := [d1, d2, d3] }
  | _ => none }
def TableLaysWrongFalsely : Prop := tableLaysRow.holds Tryz.pinned (OpenSpec.ofChange tableLaysWrong)

/-- 'honeycomblaw17.TableTurns': WHATEVER THE INPUT: true; the input reads as it did. -/
def tableTurnsSpec : ChangeSpec := { name := "tableTurns", fn := fun _ => fun
  | [d1, d2, d3] => { results := [.lit (.bool true)], args := [d1, d2, d3] }
  | _ => none }
def tableTurnsRow : OpenClaim := { program := "ytmfajobocpaimaagreat", sum := "7a99d6d6becb8417ecbd16876d5d537d945afe602c5feb87c1210f247e2ecfba", func := "honeycomb/honeycomblaw17.TableTurns", spec := "tableTurns", unfollowed := true, recurses := true, apart := false }
def TableTurnsSaid : Prop := tableTurnsRow.holds Tryz.pinned (OpenSpec.ofChange tableTurnsSpec)

/-- ITS FALSE NEIGHBOUR: 'it returns false'. Refute it at one input. -/
def tableTurnsWrong : ChangeSpec := { name := "tableTurns", fn := fun _ => fun
  | [d1, d2, d3] => { results := [.lit (.bool false)], args := [d1, d2, d3] }
  | _ => none }
def TableTurnsWrongFalsely : Prop := tableTurnsRow.holds Tryz.pinned (OpenSpec.ofChange tableTurnsWrong)

/-- 'honeycomblaw17.TableMay': WHATEVER THE INPUT: true; the input reads as it did. -/
def tableMaySpec : ChangeSpec := { name := "tableMay", fn := fun _ => fun
  | [d1, d2, d3] => { results := [.lit (.bool true)], args := [d1, d2, d3] }
  | _ => none }
def tableMayRow : OpenClaim := { program := "ytmfajobocpaimaagreat", sum := "7a99d6d6becb8417ecbd16876d5d537d945afe602c5feb87c1210f247e2ecfba", func := "honeycomb/honeycomblaw17.TableMay", spec := "tableMay", unfollowed := true, recurses := true, apart := false }
def TableMaySaid : Prop := tableMayRow.holds Tryz.pinned (OpenSpec.ofChange tableMaySpec)

/-- ITS FALSE NEIGHBOUR: 'it returns false'. Refute it at one input. -/
def tableMayWrong : ChangeSpec := { name := "tableMay", fn := fun _ => fun
  | [d1, d2, d3] => { results := [.lit (.bool false)], args := [d1, d2, d3] }
  | _ => none }
def TableMayWrongFalsely : Prop := tableMayRow.holds Tryz.pinned (OpenSpec.ofChange tableMayWrong)

/-- 'honeycomblaw17.TableHalves': WHATEVER THE INPUT: true; the input reads as it did. -/
def tableHalvesSpec : ChangeSpec := { name := "tableHalves", fn := fun _ => fun
  | [d1, d2] => { results := [.lit (.bool true)], args := [d1, d2] }
  | _ => none }
def tableHalvesRow : OpenClaim := { program := "ytmfajobocpaimaagreat", sum := "7a99d6d6becb8417ecbd16876d5d537d945afe602c5feb87c1210f247e2ecfba", func := "honeycomb/honeycomblaw17.TableHalves", spec := "tableHalves", unfollowed := true, recurses := true, apart := false }
def TableHalvesSaid : Prop := tableHalvesRow.holds Tryz.pinned (OpenSpec.ofChange tableHalvesSpec)

/-- ITS FALSE NEIGHBOUR: 'it returns false'. Refute it at one input. -/
def tableHalvesWrong : ChangeSpec := { name := "tableHalves", fn := fun _ => fun
  | [d1, d2] => { results := [.lit (.bool false)], args := [d1, d2] }
  | _ => none }
def TableHalvesWrongFalsely : Prop := tableHalvesRow.holds Tryz.pinned (OpenSpec.ofChange tableHalvesWrong)

/-- 'honeycomblaw17.TableRoom': WHATEVER THE INPUT: true; the input reads as it did. -/
def tableRoomSpec : ChangeSpec := { name := "tableRoom", fn := fun _ => fun
  | [d1, d2, d3] => { results := [.lit (.bool true)], args := [d1, d2, d3] }
  | _ => none }
def tableRoomRow : OpenClaim := { program := "ytmfajobocpaimaagreat", sum := "7a99d6d6becb8417ecbd16876d5d537d945afe602c5feb87c1210f247e2ecfba", func := "honeycomb/honeycomblaw17.TableRoom", spec := "tableRoom", unfollowed := true, recurses := true, apart := false }
def TableRoomSaid : Prop := tableRoomRow.holds Tryz.pinned (OpenSpec.ofChange tableRoomSpec)

/-- ITS FALSE NEIGHBOUR: 'it returns false'. Refute it at one input. -/
def tableRoomWrong : ChangeSpec := { name := "tableRoom", fn := fun _ => fun
  | [d1, d2, d3] => { results := [.lit (.bool false)], args := [d1, d2, d3] }
  | _ => none }
def TableRoomWrongFalsely : Prop := tableRoomRow.holds Tryz.pinned (OpenSpec.ofChange tableRoomWrong)

/-- 'honeycomblaw19.WriteSteps': WHATEVER THE INPUT: true; the input reads as it did. -/
def writeStepsSpec : ChangeSpec := { name := "writeSteps", fn := fun _ => fun
  | [d1, d2] => { results := [.lit (.bool true)], args := [d1, d2] }
  | _ => none }
def writeStepsRow : OpenClaim := { program := "ytmfajobocpaimaagreat", sum := "7a99d6d6becb8417ecbd16876d5d537d945afe602c5feb87c1210f247e2ecfba", func := "honeycomb/honeycomblaw19.WriteSteps", spec := "writeSteps", unfollowed := true, recurses := true, apart := false }
def WriteStepsSaid : Prop := writeStepsRow.holds Tryz.pinned (OpenSpec.ofChange writeStepsSpec)

/-- ITS FALSE NEIGHBOUR: 'it returns false'. Refute it at one input. -/
def writeStepsWrong : ChangeSpec := { name := "writeSteps", fn := fun _ => fun
  | [d1, d2] => { results := [.lit (.bool false)], args := [d1, d2] }
  | _ => none }
def WriteStepsWrongFalsely : Prop := writeStepsRow.holds Tryz.pinned (OpenSpec.ofChange writeStepsWrong)

/-- 'honeycomblaw19.WriteRuns': WHATEVER THE INPUT: true; the input reads as it did. -/
def writeRunsSpec : ChangeSpec := { name := "writeRuns", fn := fun _ => fun
  | [d1, d2] => { results := [.lit (.bool true)], args := [d1, d2] }
  | _ => none }
def writeRunsRow : OpenClaim := { program := "ytmfajobocpaimaagreat", sum := "7a99d6d6becb8417ecbd16876d5d537d945afe602c5feb87c1210f247e2ecfba", func := "honeycomb/honeycomblaw19.WriteRuns", spec := "writeRuns", unfollowed := true, recurses := true, apart := false }
def WriteRunsSaid : Prop := writeRunsRow.holds Tryz.pinned (OpenSpec.ofChange writeRunsSpec)

/-- ITS FALSE NEIGHBOUR: 'it returns false'. Refute it at one input. -/
def writeRunsWrong : ChangeSpec := { name := "writeRuns", fn := fun _ => fun
  | [d1, d2] => { results := [.lit (.bool false)], args := [d1, d2] }
  | _ => none }
def WriteRunsWrongFalsely : Prop := writeRunsRow.holds Tryz.pinned (OpenSpec.ofChange writeRunsWrong)

/-- 'honeycomblaw17.TableKeeps': WHATEVER THE INPUT: true; the input reads as it did. -/
def tableKeepsSpec : ChangeSpec := { name := "tableKeeps", fn := fun _ => fun
  | [d1, d2, d3] => { results := [.lit (.bool true)], args := [d1, d2, d3] }
  | _ => none }
def tableKeepsRow : OpenClaim := { program := "ytmfajobocpaimaagreat", sum := "7a99d6d6becb8417ecbd16876d5d537d945afe602c5feb87c1210f247e2ecfba", func := "honeycomb/honeycomblaw17.TableKeeps", spec := "tableKeeps", unfollowed := true, recurses := true, apart := false }
def TableKeepsSaid : Prop := tableKeepsRow.holds Tryz.pinned (OpenSpec.ofChange tableKeepsSpec)

/-- ITS FALSE NEIGHBOUR: 'it returns false'. Refute it at one input. -/
def tableKeepsWrong : ChangeSpec := { name := "tableKeeps", fn := fun _ => fun
  | [d1, d2, d3] => { results := [.lit (.bool false)], args := [d1, d2, d3] }
  | _ => none }
def TableKeepsWrongFalsely : Prop := tableKeepsRow.holds Tryz.pinned (OpenSpec.ofChange tableKeepsWrong)

/-- 'honeycomblaw19.WriteSection': WHATEVER THE INPUT: true; the input reads as it did. -/
def writeSectionSpec : ChangeSpec := { name := "writeSection", fn := fun _ => fun
  | [d1, d2] => { results := [.lit (.bool true)], args := [d1, d2] }
  | _ => none }
def writeSectionRow : OpenClaim := { program := "ytmfajobocpaimaagreat", sum := "7a99d6d6becb8417ecbd16876d5d537d945afe602c5feb87c1210f247e2ecfba", func := "honeycomb/honeycomblaw19.WriteSection", spec := "writeSection", unfollowed := true, recurses := true, apart := false }
def WriteSectionSaid : Prop := writeSectionRow.holds Tryz.pinned (OpenSpec.ofChange writeSectionSpec)

/-- ITS FALSE NEIGHBOUR: 'it returns false'. Refute it at one input. -/
def writeSectionWrong : ChangeSpec := { name := "writeSection", fn := fun _ => fun
  | [d1, d2] => { results := [.lit (.bool false)], args := [d1, d2] }
  | _ => none }
def WriteSectionWrongFalsely : Prop := writeSectionRow.holds Tryz.pinned (OpenSpec.ofChange writeSectionWrong)

/-- 'honeycomblaw19.WriteAnswers': WHATEVER THE INPUT: true; the input reads as it did. -/
def writeAnswersSpec : ChangeSpec := { name := "writeAnswers", fn := fun _ => fun
  | [d1, d2] => { results := [.lit (.bool true)], args := [d1, d2] }
  | _ => none }
def writeAnswersRow : OpenClaim := { program := "ytmfajobocpaimaagreat", sum := "7a99d6d6becb8417ecbd16876d5d537d945afe602c5feb87c1210f247e2ecfba", func := "honeycomb/honeycomblaw19.WriteAnswers", spec := "writeAnswers", unfollowed := true, recurses := true, apart := false }
def WriteAnswersSaid : Prop := writeAnswersRow.holds Tryz.pinned (OpenSpec.ofChange writeAnswersSpec)

/-- ITS FALSE NEIGHBOUR: 'it returns false'. Refute it at one input. -/
def writeAnswersWrong : ChangeSpec := { name := "writeAnswers", fn := fun _ => fun
  | [d1, d2] => { results := [.lit (.bool false)], args := [d1, d2] }
  | _ => none }
def WriteAnswersWrongFalsely : Prop := writeAnswersRow.holds Tryz.pinned (OpenSpec.ofChange writeAnswersWrong)

/-- 'honeycomblaw19.WriteTable': WHATEVER THE INPUT: true; the input reads as it did. -/
def writeTableSpec : ChangeSpec := { name := "writeTable", fn := fun _ => fun
  | [d1, d2] => { results := [.lit (.bool true)], args := [d1, d2] }
  | _ => none }
def writeTableRow : OpenClaim := { program := "ytmfajobocpaimaagreat", sum := "7a99d6d6becb8417ecbd16876d5d537d945afe602c5feb87c1210f247e2ecfba", func := "honeycomb/honeycomblaw19.WriteTable", spec := "writeTable", unfollowed := true, recurses := true, apart := false }
def WriteTableSaid : Prop := writeTableRow.holds Tryz.pinned (OpenSpec.ofChange writeTableSpec)

/-- ITS FALSE NEIGHBOUR: 'it returns false'. Refute it at one input. -/
def writeTableWrong : ChangeSpec := { name := "writeTable", fn := fun _ => fun
  | [d1, d2] => { results := [.lit (.bool false)], args := [d1, d2] }
  | _ => none }
def WriteTableWrongFalsely : Prop := writeTableRow.holds Tryz.pinned (OpenSpec.ofChange writeTableWrong)

/- THE SECOND FORM. 'bulk': how many values and letters a reading holds, each counted each time it is reached (what is shared counts as often as it is met; a slice's spare places count too). A statement '..UptoSaid' is the law's where the arguments, and the package variables that the reading takes, are together of bulk at most 1048576: NARROWER than '..Said'. Prove '..Said' where nothing that the law and all that it calls make is longer than what came in: it says more and counts as full. Else prove '..UptoSaid'. A law counts once. -/
mutual
def uptoBulk {H : Type} : DataW H → Nat
  | .lit (.string bytes) => bytes.length + 1
  | .lit _ => 1
  | .nil => 1
  | .ptr d => uptoBulk d + 1
  | .slice elems spare => uptoBulkAll elems + uptoBulkAll spare + 1
  | .agg parts => uptoBulkAll parts + 1
  | .iface _ d => uptoBulk d + 1
  | .map entries => uptoBulkEntries entries + 1
  | .held _ => 1
def uptoBulkAll {H : Type} : List (DataW H) → Nat
  | [] => 0
  | d :: r => uptoBulk d + uptoBulkAll r
def uptoBulkEntries {H : Type} : List (Lit × DataW H) → Nat
  | [] => 0
  | x :: r => uptoBulkEntry x + uptoBulkEntries r
def uptoBulkEntry {H : Type} : Lit × DataW H → Nat
  | (.string bytes, d) => bytes.length + uptoBulk d + 1
  | (_, d) => uptoBulk d + 1
 end
def uptoSmall : (H : Type) → List (DataW H) → Bool := fun _ ds => decide (uptoBulkAll ds ≤ 1048576)
def OpenSpec.upto (s : _root_.Go.ChangeSpec) : _root_.Go.OpenSpec := { _root_.Go.OpenSpec.ofChange s with cond := some uptoSmall }

/-- 'honeycomblaw17.TableLays', WHERE WHAT IT READS IS OF BULK AT MOST 1048576: true; the input reads as it did. -/
def tableLaysUptoRow : OpenClaim := { program := "ytmfajobocpaimaagreat", sum := "7a99d6d6becb8417ecbd16876d5d537d945afe602c5feb87c1210f247e2ecfba", func := "honeycomb/honeycomblaw17.TableLays", spec := "tableLays", unfollowed := true, recurses := true, apart := false, narrowed := true }
def TableLaysUptoSaid : Prop := tableLaysUptoRow.holds Tryz.pinned (OpenSpec.upto tableLaysSpec)

/-- 'honeycomblaw17.TableTurns', WHERE WHAT IT READS IS OF BULK AT MOST 1048576: true; the input reads as it did. -/
def tableTurnsUptoRow : OpenClaim := { program := "ytmfajobocpaimaagreat", sum := "7a99d6d6becb8417ecbd16876d5d537d945afe602c5feb87c1210f247e2ecfba", func := "honeycomb/honeycomblaw17.TableTurns", spec := "tableTurns", unfollowed := true, recurses := true, apart := false, narrowed := true }
def TableTurnsUptoSaid : Prop := tableTurnsUptoRow.holds Tryz.pinned (OpenSpec.upto tableTurnsSpec)

/-- 'honeycomblaw17.TableMay', WHERE WHAT IT READS IS OF BULK AT MOST 1048576: true; the input reads as it did. -/
def tableMayUptoRow : OpenClaim := { program := "ytmfajobocpaimaagreat", sum := "7a99d6d6becb8417ecbd16876d5d537d945afe602c5feb87c1210f247e2ecfba", func := "honeycomb/honeycomblaw17.TableMay", spec := "tableMay", unfollowed := true, recurses := true, apart := false, narrowed := true }
def TableMayUptoSaid : Prop := tableMayUptoRow.holds Tryz.pinned (OpenSpec.upto tableMaySpec)

/-- 'honeycomblaw17.TableHalves', WHERE WHAT IT READS IS OF BULK AT MOST 1048576: true; the input reads as it did. -/
def tableHalvesUptoRow : OpenClaim := { program := "ytmfajobocpaimaagreat", sum := "7a99d6d6becb8417ecbd16876d5d537d945afe602c5feb87c1210f247e2ecfba", func := "honeycomb/honeycomblaw17.TableHalves", spec := "tableHalves", unfollowed := true, recurses := true, apart := false, narrowed := true }
def TableHalvesUptoSaid : Prop := tableHalvesUptoRow.holds Tryz.pinned (OpenSpec.upto tableHalvesSpec)

/-- 'honeycomblaw17.TableRoom', WHERE WHAT IT READS IS OF BULK AT MOST 1048576: true; the input reads as it did. -/
def tableRoomUptoRow : OpenClaim := { program := "ytmfajobocpaimaagreat", sum := "7a99d6d6becb8417ecbd16876d5d537d945afe602c5feb87c1210f247e2ecfba", func := "honeycomb/honeycomblaw17.TableRoom", spec := "tableRoom", unfollowed := true, recurses := true, apart := false, narrowed := true }
def TableRoomUptoSaid : Prop := tableRoomUptoRow.holds Tryz.pinned (OpenSpec.upto tableRoomSpec)

/-- 'honeycomblaw19.WriteSteps', WHERE WHAT IT READS IS OF BULK AT MOST 1048576: true; the input reads as it did. -/
def writeStepsUptoRow : OpenClaim := { program := "ytmfajobocpaimaagreat", sum := "7a99d6d6becb8417ecbd16876d5d537d945afe602c5feb87c1210f247e2ecfba", func := "honeycomb/honeycomblaw19.WriteSteps", spec := "writeSteps", unfollowed := true, recurses := true, apart := false, narrowed := true }
def WriteStepsUptoSaid : Prop := writeStepsUptoRow.holds Tryz.pinned (OpenSpec.upto writeStepsSpec)

/-- 'honeycomblaw19.WriteRuns', WHERE WHAT IT READS IS OF BULK AT MOST 1048576: true; the input reads as it did. -/
def writeRunsUptoRow : OpenClaim := { program := "ytmfajobocpaimaagreat", sum := "7a99d6d6becb8417ecbd16876d5d537d945afe602c5feb87c1210f247e2ecfba", func := "honeycomb/honeycomblaw19.WriteRuns", spec := "writeRuns", unfollowed := true, recurses := true, apart := false, narrowed := true }
def WriteRunsUptoSaid : Prop := writeRunsUptoRow.holds Tryz.pinned (OpenSpec.upto writeRunsSpec)

/-- 'honeycomblaw17.TableKeeps', WHERE WHAT IT READS IS OF BULK AT MOST 1048576: true; the input reads as it did. -/
def tableKeepsUptoRow : OpenClaim := { program := "ytmfajobocpaimaagreat", sum := "7a99d6d6becb8417ecbd16876d5d537d945afe602c5feb87c1210f247e2ecfba", func := "honeycomb/honeycomblaw17.TableKeeps", spec := "tableKeeps", unfollowed := true, recurses := true, apart := false, narrowed := true }
def TableKeepsUptoSaid : Prop := tableKeepsUptoRow.holds Tryz.pinned (OpenSpec.upto tableKeepsSpec)

/-- 'honeycomblaw19.WriteSection', WHERE WHAT IT READS IS OF BULK AT MOST 1048576: true; the input reads as it did. -/
def writeSectionUptoRow : OpenClaim := { program := "ytmfajobocpaimaagreat", sum := "7a99d6d6becb8417ecbd16876d5d537d945afe602c5feb87c1210f247e2ecfba", func := "honeycomb/honeycomblaw19.WriteSection", spec := "writeSection", unfollowed := true, recurses := true, apart := false, narrowed := true }
def WriteSectionUptoSaid : Prop := writeSectionUptoRow.holds Tryz.pinned (OpenSpec.upto writeSectionSpec)

/-- 'honeycomblaw19.WriteAnswers', WHERE WHAT IT READS IS OF BULK AT MOST 1048576: true; the input reads as it did. -/
def writeAnswersUptoRow : OpenClaim := { program := "ytmfajobocpaimaagreat", sum := "7a99d6d6becb8417ecbd16876d5d537d945afe602c5feb87c1210f247e2ecfba", func := "honeycomb/honeycomblaw19.WriteAnswers", spec := "writeAnswers", unfollowed := true, recurses := true, apart := false, narrowed := true }
def WriteAnswersUptoSaid : Prop := writeAnswersUptoRow.holds Tryz.pinned (OpenSpec.upto writeAnswersSpec)

/-- 'honeycomblaw19.WriteTable', WHERE WHAT IT READS IS OF BULK AT MOST 1048576: true; the input reads as it did. -/
def writeTableUptoRow : OpenClaim := { program := "ytmfajobocpaimaagreat", sum := "7a99d6d6becb8417ecbd16876d5d537d945afe602c5feb87c1210f247e2ecfba", func := "honeycomb/honeycomblaw19.WriteTable", spec := "writeTable", unfollowed := true, recurses := true, apart := false, narrowed := true }
def WriteTableUptoSaid : Prop := writeTableUptoRow.holds Tryz.pinned (OpenSpec.upto writeTableSpec)

end Rows
end Go.Proofs.YtmfajobocpaimaaGreat
