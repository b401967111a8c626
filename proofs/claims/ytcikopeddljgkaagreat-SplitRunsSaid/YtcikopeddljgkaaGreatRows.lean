/-
  No cell of these rows narrows 'for every input' (looked for: loops, veiled, ifaces, maps, wideKeys, modest, calm, conditions, laid).
  DERIVED. THE GIVEN ROWS OF THIS SEAT. 10 by the template 'for every input the law returns true; each argument reads behind the call as it read before'; 0 by the template 'total and deterministic' (their statements: YtcikopeddljgkaaGreatTotals.lean).
  GIVEN WITH THE SEED: the statements are not yours to turn. If you find one false, say at which input.
  Laid BY PROGRAM, IN A SANDBOX (cutbox-rows.mjs): the forced cells as the released guide's own fill.sh prints them over the translation 56a0e7a77b810ee1… (all of the seat's roots in one cut). By AI agents, Wed Nov 11 2026. No macro, syntax, notation, axiom, sorry.
-/
import Derived.Test.YtcikopeddljgkaaGreatChecked
import GoSem.Claim
import GoSem.ClaimJoined
import GoSem.ClaimMapViews
import Derived.JoinedTies
import Derived.KernelRfl
namespace Go.Proofs.YtcikopeddljgkaaGreat
/- THE CELL 'sum', in the pinned program and in every row, IS THE sha256 OF THE DUMP (.gsa) THAT YtcikopeddljgkaaGreatProg.lean LOADS. Nothing in Lean hashes anything: it is a label: what it is worth is what the hold of that sum in a sandbox is worth. -/
noncomputable def Tryz.pinned : Pinned := { name := "ytcikopeddljgkaagreat", sum := "56a0e7a77b810ee1d443cffeab18a2c8cc57f6733564a6e29b71636e4b99323b", checked := Tryz.checked }
namespace Rows
def none {H : Type} : Left H := { results := [], args := [] }

/-- 'honeycomblaw17.TableLays': WHATEVER THE INPUT: true; the input reads as it did. -/
def tableLaysSpec : ChangeSpec := { name := "tableLays", fn := fun _ => fun
  | [d1, d2, d3] => { results := [.lit (.bool true)], args := [d1, d2, d3] }
  | _ => none }
def tableLaysRow : OpenClaim := { program := "ytcikopeddljgkaagreat", sum := "56a0e7a77b810ee1d443cffeab18a2c8cc57f6733564a6e29b71636e4b99323b", func := "honeycomb/honeycomblaw17.TableLays", spec := "tableLays", unfollowed := true, recurses := true, apart := false }
def TableLaysSaid : Prop := tableLaysRow.holds Tryz.pinned (OpenSpec.ofChange tableLaysSpec)

/-- ITS FALSE NEIGHBOUR: 'it returns false'. Refute it at one input. -/
def tableLaysWrong : ChangeSpec := { name := "tableLays", fn := fun _ => fun
  | [d1, d2, d3] => { results := [.lit (.bool false)], args := [d1, d2, d3] }
  | _ => none }
def TableLaysWrongFalsely : Prop := tableLaysRow.holds Tryz.pinned (OpenSpec.ofChange tableLaysWrong)

/-- 'honeycomblaw22.SplitRuns': WHATEVER THE INPUT: true; the input reads as it did. -/
def splitRunsSpec : ChangeSpec := { name := "splitRuns", fn := fun _ => fun
  | [d1, d2, d3] => { results := [.lit (.bool true)], args := [d1, d2, d3] }
  | _ => none }
def splitRunsRow : OpenClaim := { program := "ytcikopeddljgkaagreat", sum := "56a0e7a77b810ee1d443cffeab18a2c8cc57f6733564a6e29b71636e4b99323b", func := "honeycomb/honeycomblaw22.SplitRuns", spec := "splitRuns", unfollowed := true, recurses := true, apart := false }
def SplitRunsSaid : Prop := splitRunsRow.holds Tryz.pinned (OpenSpec.ofChange splitRunsSpec)

/-- ITS FALSE NEIGHBOUR: 'it returns false'. Refute it at one input. -/
def splitRunsWrong : ChangeSpec := { name := "splitRuns", fn := fun _ => fun
  | [d1, d2, d3] => { results := [.lit (.bool false)], args := [d1, d2, d3] }
  | _ => none }
def SplitRunsWrongFalsely : Prop := splitRunsRow.holds Tryz.pinned (OpenSpec.ofChange splitRunsWrong)

/-- 'honeycomblaw20.RehashAnew': WHATEVER THE INPUT: true; the input reads as it did. -/
def rehashAnewSpec : ChangeSpec := { name := "rehashAnew", fn := fun _ => fun
  | [d1, d2, d3] => { results := [.lit (.bool true)], args := [d1, d2, d3] }
  | _ => none }
def rehashAnewRow : OpenClaim := { program := "ytcikopeddljgkaagreat", sum := "56a0e7a77b810ee1d443cffeab18a2c8cc57f6733564a6e29b71636e4b99323b", func := "honeycomb/honeycomblaw20.RehashAnew", spec := "rehashAnew", unfollowed := true, recurses := true, apart := false }
def RehashAnewSaid : Prop := rehashAnewRow.holds Tryz.pinned (OpenSpec.ofChange rehashAnewSpec)

/-- ITS FALSE NEIGHBOUR: 'it returns false'. Refute it at one input. -/
def rehashAnewWrong : ChangeSpec := { name := "rehashAnew", fn := fun _ => fun
  | [d1, d2, d3] => { results := [.lit (.bool false)], args := [d1, d2, d3] }
  | _ => none }
def RehashAnewWrongFalsely : Prop := rehashAnewRow.holds Tryz.pinned (OpenSpec.ofChange rehashAnewWrong)

/-- 'honeycomblaw20.RehashRuns': WHATEVER THE INPUT: true; the input reads as it did. -/
def rehashRunsSpec : ChangeSpec := { name := "rehashRuns", fn := fun _ => fun
  | [d1, d2, d3] => { results := [.lit (.bool true)], args := [d1, d2, d3] }
  | _ => none }
def rehashRunsRow : OpenClaim := { program := "ytcikopeddljgkaagreat", sum := "56a0e7a77b810ee1d443cffeab18a2c8cc57f6733564a6e29b71636e4b99323b", func := "honeycomb/honeycomblaw20.RehashRuns", spec := "rehashRuns", unfollowed := true, recurses := true, apart := false }
def RehashRunsSaid : Prop := rehashRunsRow.holds Tryz.pinned (OpenSpec.ofChange rehashRunsSpec)

/-- ITS FALSE NEIGHBOUR: 'it returns false'. Refute it at one input. -/
def rehashRunsWrong : ChangeSpec := { name := "rehashRuns", fn := fun _ => fun
  | [d1, d2, d3] => { results := [.lit (.bool false)], args := [d1, d2, d3] }
  | _ => none }
def RehashRunsWrongFalsely : Prop := rehashRunsRow.holds Tryz.pinned (OpenSpec.ofChange rehashRunsWrong)

/-- 'honeycomblaw22.SplitHalves': WHATEVER THE INPUT: true; the input reads as it did. -/
def splitHalvesSpec : ChangeSpec := { name := "splitHalves", fn := fun _ => fun
  | [d1, d2, d3] => { results := [.lit (.bool true)], args := [d1, d2, d3] }
  | _ => none }
def splitHalvesRow : OpenClaim := { program := "ytcikopeddljgkaagreat", sum := "56a0e7a77b810ee1d443cffeab18a2c8cc57f6733564a6e29b71636e4b99323b", func := "honeycomb/honeycomblaw22.SplitHalves", spec := "splitHalves", unfollowed := true, recurses := true, apart := false }
def SplitHalvesSaid : Prop := splitHalvesRow.holds Tryz.pinned (OpenSpec.ofChange splitHalvesSpec)

/-- ITS FALSE NEIGHBOUR: 'it returns false'. Refute it at one input. -/
def splitHalvesWrong : ChangeSpec := { name := "splitHalves", fn := fun _ => fun
  | [d1, d2, d3] => { results := [.lit (.bool false)], args := [d1, d2, d3] }
  | _ => none }
def SplitHalvesWrongFalsely : Prop := splitHalvesRow.holds Tryz.pinned (OpenSpec.ofChange splitHalvesWrong)

/-- 'honeycomblaw22.SplitTakes': WHATEVER THE INPUT: true; the input reads as it did. -/
def splitTakesSpec : ChangeSpec := { name := "splitTakes", fn := fun _ => fun
  | [d1, d2, d3] => { results := [.lit (.bool true)], args := [d1, d2, d3] }
  | _ => none }
def splitTakesRow : OpenClaim := { program := "ytcikopeddljgkaagreat", sum := "56a0e7a77b810ee1d443cffeab18a2c8cc57f6733564a6e29b71636e4b99323b", func := "honeycomb/honeycomblaw22.SplitTakes", spec := "splitTakes", unfollowed := true, recurses := true, apart := false }
def SplitTakesSaid : Prop := splitTakesRow.holds Tryz.pinned (OpenSpec.ofChange splitTakesSpec)

/-- ITS FALSE NEIGHBOUR: 'it returns false'. Refute it at one input. -/
def splitTakesWrong : ChangeSpec := { name := "splitTakes", fn := fun _ => fun
  | [d1, d2, d3] => { results := [.lit (.bool false)], args := [d1, d2, d3] }
  | _ => none }
def SplitTakesWrongFalsely : Prop := splitTakesRow.holds Tryz.pinned (OpenSpec.ofChange splitTakesWrong)

/-- 'honeycomblaw22.SplitShuts': WHATEVER THE INPUT: true; the input reads as it did. -/
def splitShutsSpec : ChangeSpec := { name := "splitShuts", fn := fun _ => fun
  | [d1, d2, d3] => { results := [.lit (.bool true)], args := [d1, d2, d3] }
  | _ => none }
def splitShutsRow : OpenClaim := { program := "ytcikopeddljgkaagreat", sum := "56a0e7a77b810ee1d443cffeab18a2c8cc57f6733564a6e29b71636e4b99323b", func := "honeycomb/honeycomblaw22.SplitShuts", spec := "splitShuts", unfollowed := true, recurses := true, apart := false }
def SplitShutsSaid : Prop := splitShutsRow.holds Tryz.pinned (OpenSpec.ofChange splitShutsSpec)

/-- ITS FALSE NEIGHBOUR: 'it returns false'. Refute it at one input. -/
def splitShutsWrong : ChangeSpec := { name := "splitShuts", fn := fun _ => fun
  | [d1, d2, d3] => { results := [.lit (.bool false)], args := [d1, d2, d3] }
  | _ => none }
def SplitShutsWrongFalsely : Prop := splitShutsRow.holds Tryz.pinned (OpenSpec.ofChange splitShutsWrong)

/-- 'honeycomblaw20.RehashTakes': WHATEVER THE INPUT: true; the input reads as it did. -/
def rehashTakesSpec : ChangeSpec := { name := "rehashTakes", fn := fun _ => fun
  | [d1, d2, d3] => { results := [.lit (.bool true)], args := [d1, d2, d3] }
  | _ => none }
def rehashTakesRow : OpenClaim := { program := "ytcikopeddljgkaagreat", sum := "56a0e7a77b810ee1d443cffeab18a2c8cc57f6733564a6e29b71636e4b99323b", func := "honeycomb/honeycomblaw20.RehashTakes", spec := "rehashTakes", unfollowed := true, recurses := true, apart := false }
def RehashTakesSaid : Prop := rehashTakesRow.holds Tryz.pinned (OpenSpec.ofChange rehashTakesSpec)

/-- ITS FALSE NEIGHBOUR: 'it returns false'. Refute it at one input. -/
def rehashTakesWrong : ChangeSpec := { name := "rehashTakes", fn := fun _ => fun
  | [d1, d2, d3] => { results := [.lit (.bool false)], args := [d1, d2, d3] }
  | _ => none }
def RehashTakesWrongFalsely : Prop := rehashTakesRow.holds Tryz.pinned (OpenSpec.ofChange rehashTakesWrong)

/-- 'honeycomblaw20.RehashHides': WHATEVER THE INPUT: true; the input reads as it did. -/
def rehashHidesSpec : ChangeSpec := { name := "rehashHides", fn := fun _ => fun
  | [d1, d2, d3] => { results := [.lit (.bool true)], args := [d1, d2, d3] }
  | _ => none }
def rehashHidesRow : OpenClaim := { program := "ytcikopeddljgkaagreat", sum := "56a0e7a77b810ee1d443cffeab18a2c8cc57f6733564a6e29b71636e4b99323b", func := "honeycomb/honeycomblaw20.RehashHides", spec := "rehashHides", unfollowed := true, recurses := true, apart := false }
def RehashHidesSaid : Prop := rehashHidesRow.holds Tryz.pinned (OpenSpec.ofChange rehashHidesSpec)

/-- ITS FALSE NEIGHBOUR: 'it returns false'. Refute it at one input. -/
def rehashHidesWrong : ChangeSpec := { name := "rehashHides", fn := fun _ => fun
  | [d1, d2, d3] => { results := [.lit (.bool false)], args := [d1, d2, d3] }
  | _ => none }
def RehashHidesWrongFalsely : Prop := rehashHidesRow.holds Tryz.pinned (OpenSpec.ofChange rehashHidesWrong)

/-- 'honeycomblaw19.WriteTable': WHATEVER THE INPUT: true; the input reads as it did. -/
def writeTableSpec : ChangeSpec := { name := "writeTable", fn := fun _ => fun
  | [d1, d2] => { results := [.lit (.bool true)], args := [d1, d2] }
  | _ => none }
def writeTableRow : OpenClaim := { program := "ytcikopeddljgkaagreat", sum := "56a0e7a77b810ee1d443cffeab18a2c8cc57f6733564a6e29b71636e4b99323b", func := "honeycomb/honeycomblaw19.WriteTable", spec := "writeTable", unfollowed := true, recurses := true, apart := false }
def WriteTableSaid : Prop := writeTableRow.holds Tryz.pinned (OpenSpec.ofChange writeTableSpec)

/-- ITS FALSE NEIGHBOUR: 'it returns false'. Refute it at one input. -/
def writeTableWrong : ChangeSpec := { name := "writeTable", fn := fun _ => fun
  | [d1, d2] => { results := [.lit (.bool false)], args := [d1, d2] }
  | _ => none }
def WriteTableWrongFalsely : Prop := writeTableRow.holds Tryz.pinned (OpenSpec.ofChange writeTableWrong)

/- THE SECOND FORM. 'bulk': how many values and letters a reading holds, each counted each time it is reached (what is shared counts as often as it is met; a slice's spare places count too). A statement '..UptoSaid' is the law's where the arguments, and the package variables that the reading takes, are together of bulk at most 1048576: NARROWER than '..Said'. Prove '..Said' where nothing that the law and all that it calls make is longer than what came in: it says more and counts as full. Else prove '..UptoSaid'. A law counts once. -/
mutual
def uptoBulk {H : Type} : DataW H → Nat
  | .lit (.string bytes) => bytes.length + 1
  | .lit _ => 1
  | .nil => 1
  | .ptr d => uptoBulk d + 1
  | .slice elems spare => uptoBulkAll elems + uptoBulkAll spare + 1
  | .agg parts => uptoBulkAll parts + 1
  | .iface _ d => uptoBulk d + 1
  | .map entries => uptoBulkEntries entries + 1
  | .held _ => 1
def uptoBulkAll {H : Type} : List (DataW H) → Nat
  | [] => 0
  | d :: r => uptoBulk d + uptoBulkAll r
def uptoBulkEntries {H : Type} : List (Lit × DataW H) → Nat
  | [] => 0
  | x :: r => uptoBulkEntry x + uptoBulkEntries r
def uptoBulkEntry {H : Type} : Lit × DataW H → Nat
  | (.string bytes, d) => bytes.length + uptoBulk d + 1
  | (_, d) => uptoBulk d + 1
 end
def uptoSmall : (H : Type) → List (DataW H) → Bool := fun _ ds => decide (uptoBulkAll ds ≤ 1048576)
def OpenSpec.upto (s : _root_.Go.ChangeSpec) : _root_.Go.OpenSpec := { _root_.Go.OpenSpec.ofChange s with cond := some uptoSmall }

/-- 'honeycomblaw17.TableLays', WHERE WHAT IT READS IS OF BULK AT MOST 1048576: true; the input reads as it did. -/
def tableLaysUptoRow : OpenClaim := { program := "ytcikopeddljgkaagreat", sum := "56a0e7a77b810ee1d443cffeab18a2c8cc57f6733564a6e29b71636e4b99323b", func := "honeycomb/honeycomblaw17.TableLays", spec := "tableLays", unfollowed := true, recurses := true, apart := false, narrowed := true }
def TableLaysUptoSaid : Prop := tableLaysUptoRow.holds Tryz.pinned (OpenSpec.upto tableLaysSpec)

/-- 'honeycomblaw22.SplitRuns', WHERE WHAT IT READS IS OF BULK AT MOST 1048576: true; the input reads as it did. -/
def splitRunsUptoRow : OpenClaim := { program := "ytcikopeddljgkaagreat", sum := "56a0e7a77b810ee1d443cffeab18a2c8cc57f6733564a6e29b71636e4b99323b", func := "honeycomb/honeycomblaw22.SplitRuns", spec := "splitRuns", unfollowed := true, recurses := true, apart := false, narrowed := true }
def SplitRunsUptoSaid : Prop := splitRunsUptoRow.holds Tryz.pinned (OpenSpec.upto splitRunsSpec)

/-- 'honeycomblaw20.RehashAnew', WHERE WHAT IT READS IS OF BULK AT MOST 1048576: true; the input reads as it did. -/
def rehashAnewUptoRow : OpenClaim := { program := "ytcikopeddljgkaagreat", sum := "56a0e7a77b810ee1d443cffeab18a2c8cc57f6733564a6e29b71636e4b99323b", func := "honeycomb/honeycomblaw20.RehashAnew", spec := "rehashAnew", unfollowed := true, recurses := true, apart := false, narrowed := true }
def RehashAnewUptoSaid : Prop := rehashAnewUptoRow.holds Tryz.pinned (OpenSpec.upto rehashAnewSpec)

/-- 'honeycomblaw20.RehashRuns', WHERE WHAT IT READS IS OF BULK AT MOST 1048576: true; the input reads as it did. -/
def rehashRunsUptoRow : OpenClaim := { program := "ytcikopeddljgkaagreat", sum := "56a0e7a77b810ee1d443cffeab18a2c8cc57f6733564a6e29b71636e4b99323b", func := "honeycomb/honeycomblaw20.RehashRuns", spec := "rehashRuns", unfollowed := true, recurses := true, apart := false, narrowed := true }
def RehashRunsUptoSaid : Prop := rehashRunsUptoRow.holds Tryz.pinned (OpenSpec.upto rehashRunsSpec)

/-- 'honeycomblaw22.SplitHalves', WHERE WHAT IT READS IS OF BULK AT MOST 1048576: true; the input reads as it did. -/
def splitHalvesUptoRow : OpenClaim := { program := "ytcikopeddljgkaagreat", sum := "56a0e7a77b810ee1d443cffeab18a2c8cc57f6733564a6e29b71636e4b99323b", func := "honeycomb/honeycomblaw22.SplitHalves", spec := "splitHalves", unfollowed := true, recurses := true, apart := false, narrowed := true }
def SplitHalvesUptoSaid : Prop := splitHalvesUptoRow.holds Tryz.pinned (OpenSpec.upto splitHalvesSpec)

/-- 'honeycomblaw22.SplitTakes', WHERE WHAT IT READS IS OF BULK AT MOST 1048576: true; the input reads as it did. -/
def splitTakesUptoRow : OpenClaim := { program := "ytcikopeddljgkaagreat", sum := "56a0e7a77b810ee1d443cffeab18a2c8cc57f6733564a6e29b71636e4b99323b", func := "honeycomb/honeycomblaw22.SplitTakes", spec := "splitTakes", unfollowed := true, recurses := true, apart := false, narrowed := true }
def SplitTakesUptoSaid : Prop := splitTakesUptoRow.holds Tryz.pinned (OpenSpec.upto splitTakesSpec)

/-- 'honeycomblaw22.SplitShuts', WHERE WHAT IT READS IS OF BULK AT MOST 1048576: true; the input reads as it did. -/
def splitShutsUptoRow : OpenClaim := { program := "ytcikopeddljgkaagreat", sum := "56a0e7a77b810ee1d443cffeab18a2c8cc57f6733564a6e29b71636e4b99323b", func := "honeycomb/honeycomblaw22.SplitShuts", spec := "splitShuts", unfollowed := true, recurses := true, apart := false, narrowed := true }
def SplitShutsUptoSaid : Prop := splitShutsUptoRow.holds Tryz.pinned (OpenSpec.upto splitShutsSpec)

/-- 'honeycomblaw20.RehashTakes', WHERE WHAT IT READS IS OF BULK AT MOST 1048576: true; the input reads as it did. -/
def rehashTakesUptoRow : OpenClaim := { program := "ytcikopeddljgkaagreat", sum := "56a0e7a77b810ee1d443cffeab18a2c8cc57f6733564a6e29b71636e4b99323b", func := "honeycomb/honeycomblaw20.RehashTakes", spec := "rehashTakes", unfollowed := true, recurses := true, apart := false, narrowed := true }
def RehashTakesUptoSaid : Prop := rehashTakesUptoRow.holds Tryz.pinned (OpenSpec.upto rehashTakesSpec)

/-- 'honeycomblaw20.RehashHides', WHERE WHAT IT READS IS OF BULK AT MOST 1048576: true; the input reads as it did. -/
def rehashHidesUptoRow : OpenClaim := { program := "ytcikopeddljgkaagreat", sum := "56a0e7a77b810ee1d443cffeab18a2c8cc57f6733564a6e29b71636e4b99323b", func := "honeycomb/honeycomblaw20.RehashHides", spec := "rehashHides", unfollowed := true, recurses := true, apart := false, narrowed := true }
def RehashHidesUptoSaid : Prop := rehashHidesUptoRow.holds Tryz.pinned (OpenSpec.upto rehashHidesSpec)

/-- 'honeycomblaw19.WriteTable', WHERE WHAT IT READS IS OF BULK AT MOST 1048576: true; the input reads as it did. -/
def writeTableUptoRow : OpenClaim := { program := "ytcikopeddljgkaagreat", sum := "56a0e7a77b810ee1d443cffeab18a2c8cc57f6733564a6e29b71636e4b99323b", func := "honeycomb/honeycomblaw19.WriteTable", spec := "writeTable", unfollowed := true, recurses := true, apart := false, narrowed := true }
def WriteTableUptoSaid : Prop := writeTableUptoRow.holds Tryz.pinned (OpenSpec.upto writeTableSpec)

end Rows
end Go.Proofs.YtcikopeddljgkaaGreat
