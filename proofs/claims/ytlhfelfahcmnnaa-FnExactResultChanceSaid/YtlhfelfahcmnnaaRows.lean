/-
  No cell of these rows narrows 'for every input' (looked for: loops, veiled, ifaces, maps, wideKeys, modest, calm, conditions, laid).
  DERIVED. THE GIVEN ROWS OF THIS SEAT. 10 by the template 'for every input the law returns true; each argument reads behind the call as it read before'; 0 by the template 'total and deterministic' (their statements: YtlhfelfahcmnnaaTotals.lean).
  GIVEN WITH THE SEED: the statements are not yours to turn. If you find one false, say at which input.
  Laid BY PROGRAM, IN A SANDBOX (cutbox-rows.mjs): the forced cells as the released guide's own fill.sh prints them over the translation 9eea8ed4f0162e88… (all of the seat's roots in one cut). By AI agents, Wed Nov 11 2026. No macro, syntax, notation, axiom, sorry.
-/
import Derived.Test.YtlhfelfahcmnnaaChecked
import GoSem.Claim
import GoSem.ClaimJoined
import GoSem.ClaimMapViews
import Derived.JoinedTies
import Derived.KernelRfl
namespace Go.Proofs.Ytlhfelfahcmnnaa
/- THE CELL 'sum', in the pinned program and in every row, IS THE sha256 OF THE DUMP (.gsa) THAT YtlhfelfahcmnnaaProg.lean LOADS. Nothing in Lean hashes anything: it is a label: what it is worth is what the hold of that sum in a sandbox is worth. -/
noncomputable def Try.pinned : Pinned := { name := "ytlhfelfahcmnnaa", sum := "9eea8ed4f0162e88953632fd9fe4baa6781d1d407f2881cb6c1b746b63e69880", checked := Try.checked }
namespace Rows
def none {H : Type} : Left H := { results := [], args := [] }

/-- 'laws.FnExactDoesHelp': WHATEVER THE INPUT: true; the input reads as it did. -/
def fnExactDoesHelpSpec : ChangeSpec := { name := "fnExactDoesHelp", fn := fun _ => fun
  | [d] => { results := [.lit (.bool true)], args := [d] }
  | _ => none }
def fnExactDoesHelpRow : OpenClaim := { program := "ytlhfelfahcmnnaa", sum := "9eea8ed4f0162e88953632fd9fe4baa6781d1d407f2881cb6c1b746b63e69880", func := "loop.example/g01062/laws.FnExactDoesHelp", spec := "fnExactDoesHelp", apart := false }
def FnExactDoesHelpSaid : Prop := fnExactDoesHelpRow.holds Try.pinned (OpenSpec.ofChange fnExactDoesHelpSpec)

/-- ITS FALSE NEIGHBOUR: 'it returns false'. Refute it at one input. -/
def fnExactDoesHelpWrong : ChangeSpec := { name := "fnExactDoesHelp", fn := fun _ => fun
  | [d] => { results := [.lit (.bool false)], args := [d] }
  | _ => none }
def FnExactDoesHelpWrongFalsely : Prop := fnExactDoesHelpRow.holds Try.pinned (OpenSpec.ofChange fnExactDoesHelpWrong)

/-- 'laws.FnExactAreOdds': WHATEVER THE INPUT: true; the input reads as it did. -/
def fnExactAreOddsSpec : ChangeSpec := { name := "fnExactAreOdds", fn := fun _ => fun
  | [d] => { results := [.lit (.bool true)], args := [d] }
  | _ => none }
def fnExactAreOddsRow : OpenClaim := { program := "ytlhfelfahcmnnaa", sum := "9eea8ed4f0162e88953632fd9fe4baa6781d1d407f2881cb6c1b746b63e69880", func := "loop.example/g01062/laws.FnExactAreOdds", spec := "fnExactAreOdds", apart := false }
def FnExactAreOddsSaid : Prop := fnExactAreOddsRow.holds Try.pinned (OpenSpec.ofChange fnExactAreOddsSpec)

/-- ITS FALSE NEIGHBOUR: 'it returns false'. Refute it at one input. -/
def fnExactAreOddsWrong : ChangeSpec := { name := "fnExactAreOdds", fn := fun _ => fun
  | [d] => { results := [.lit (.bool false)], args := [d] }
  | _ => none }
def FnExactAreOddsWrongFalsely : Prop := fnExactAreOddsRow.holds Try.pinned (OpenSpec.ofChange fnExactAreOddsWrong)

/-- 'laws.FnExactShareReal': WHATEVER THE INPUT: true; the input reads as it did. -/
def fnExactShareRealSpec : ChangeSpec := { name := "fnExactShareReal", fn := fun _ => fun
  | [d] => { results := [.lit (.bool true)], args := [d] }
  | _ => none }
def fnExactShareRealRow : OpenClaim := { program := "ytlhfelfahcmnnaa", sum := "9eea8ed4f0162e88953632fd9fe4baa6781d1d407f2881cb6c1b746b63e69880", func := "loop.example/g01062/laws.FnExactShareReal", spec := "fnExactShareReal", apart := false }
def FnExactShareRealSaid : Prop := fnExactShareRealRow.holds Try.pinned (OpenSpec.ofChange fnExactShareRealSpec)

/-- ITS FALSE NEIGHBOUR: 'it returns false'. Refute it at one input. -/
def fnExactShareRealWrong : ChangeSpec := { name := "fnExactShareReal", fn := fun _ => fun
  | [d] => { results := [.lit (.bool false)], args := [d] }
  | _ => none }
def FnExactShareRealWrongFalsely : Prop := fnExactShareRealRow.holds Try.pinned (OpenSpec.ofChange fnExactShareRealWrong)

/-- 'laws.FnExactAreTrials': WHATEVER THE INPUT: true; the input reads as it did. -/
def fnExactAreTrialsSpec : ChangeSpec := { name := "fnExactAreTrials", fn := fun _ => fun
  | [d] => { results := [.lit (.bool true)], args := [d] }
  | _ => none }
def fnExactAreTrialsRow : OpenClaim := { program := "ytlhfelfahcmnnaa", sum := "9eea8ed4f0162e88953632fd9fe4baa6781d1d407f2881cb6c1b746b63e69880", func := "loop.example/g01062/laws.FnExactAreTrials", spec := "fnExactAreTrials", unfollowed := true, recurses := true, apart := false }
def FnExactAreTrialsSaid : Prop := fnExactAreTrialsRow.holds Try.pinned (OpenSpec.ofChange fnExactAreTrialsSpec)

/-- ITS FALSE NEIGHBOUR: 'it returns false'. Refute it at one input. -/
def fnExactAreTrialsWrong : ChangeSpec := { name := "fnExactAreTrials", fn := fun _ => fun
  | [d] => { results := [.lit (.bool false)], args := [d] }
  | _ => none }
def FnExactAreTrialsWrongFalsely : Prop := fnExactAreTrialsRow.holds Try.pinned (OpenSpec.ofChange fnExactAreTrialsWrong)

/-- 'laws.FnExactBestTrial': WHATEVER THE INPUT: true; the input reads as it did. -/
def fnExactBestTrialSpec : ChangeSpec := { name := "fnExactBestTrial", fn := fun _ => fun
  | [d] => { results := [.lit (.bool true)], args := [d] }
  | _ => none }
def fnExactBestTrialRow : OpenClaim := { program := "ytlhfelfahcmnnaa", sum := "9eea8ed4f0162e88953632fd9fe4baa6781d1d407f2881cb6c1b746b63e69880", func := "loop.example/g01062/laws.FnExactBestTrial", spec := "fnExactBestTrial", unfollowed := true, recurses := true, apart := false }
def FnExactBestTrialSaid : Prop := fnExactBestTrialRow.holds Try.pinned (OpenSpec.ofChange fnExactBestTrialSpec)

/-- ITS FALSE NEIGHBOUR: 'it returns false'. Refute it at one input. -/
def fnExactBestTrialWrong : ChangeSpec := { name := "fnExactBestTrial", fn := fun _ => fun
  | [d] => { results := [.lit (.bool false)], args := [d] }
  | _ => none }
def FnExactBestTrialWrongFalsely : Prop := fnExactBestTrialRow.holds Try.pinned (OpenSpec.ofChange fnExactBestTrialWrong)

/-- 'laws.FnExactResultChance': WHATEVER THE INPUT: true; the input reads as it did. -/
def fnExactResultChanceSpec : ChangeSpec := { name := "fnExactResultChance", fn := fun _ => fun
  | [d1, d2, d3] => { results := [.lit (.bool true)], args := [d1, d2, d3] }
  | _ => none }
def fnExactResultChanceRow : OpenClaim := { program := "ytlhfelfahcmnnaa", sum := "9eea8ed4f0162e88953632fd9fe4baa6781d1d407f2881cb6c1b746b63e69880", func := "loop.example/g01062/laws.FnExactResultChance", spec := "fnExactResultChance", unfollowed := true, recurses := true, apart := false }
def FnExactResultChanceSaid : Prop := fnExactResultChanceRow.holds Try.pinned (OpenSpec.ofChange fnExactResultChanceSpec)

/-- ITS FALSE NEIGHBOUR: 'it returns false'. Refute it at one input. -/
def fnExactResultChanceWrong : ChangeSpec := { name := "fnExactResultChance", fn := fun _ => fun
  | [d1, d2, d3] => { results := [.lit (.bool false)], args := [d1, d2, d3] }
  | _ => none }
def FnExactResultChanceWrongFalsely : Prop := fnExactResultChanceRow.holds Try.pinned (OpenSpec.ofChange fnExactResultChanceWrong)

/-- 'laws.FnExactOddsAfter': WHATEVER THE INPUT: true; the input reads as it did. -/
def fnExactOddsAfterSpec : ChangeSpec := { name := "fnExactOddsAfter", fn := fun _ => fun
  | [d1, d2, d3] => { results := [.lit (.bool true)], args := [d1, d2, d3] }
  | _ => none }
def fnExactOddsAfterRow : OpenClaim := { program := "ytlhfelfahcmnnaa", sum := "9eea8ed4f0162e88953632fd9fe4baa6781d1d407f2881cb6c1b746b63e69880", func := "loop.example/g01062/laws.FnExactOddsAfter", spec := "fnExactOddsAfter", unfollowed := true, recurses := true, apart := false }
def FnExactOddsAfterSaid : Prop := fnExactOddsAfterRow.holds Try.pinned (OpenSpec.ofChange fnExactOddsAfterSpec)

/-- ITS FALSE NEIGHBOUR: 'it returns false'. Refute it at one input. -/
def fnExactOddsAfterWrong : ChangeSpec := { name := "fnExactOddsAfter", fn := fun _ => fun
  | [d1, d2, d3] => { results := [.lit (.bool false)], args := [d1, d2, d3] }
  | _ => none }
def FnExactOddsAfterWrongFalsely : Prop := fnExactOddsAfterRow.holds Try.pinned (OpenSpec.ofChange fnExactOddsAfterWrong)

/-- 'laws.FnExactFewestTrials': WHATEVER THE INPUT: true; the input reads as it did. -/
def fnExactFewestTrialsSpec : ChangeSpec := { name := "fnExactFewestTrials", fn := fun _ => fun
  | [d1, d2, d3, d4] => { results := [.lit (.bool true)], args := [d1, d2, d3, d4] }
  | _ => none }
def fnExactFewestTrialsRow : OpenClaim := { program := "ytlhfelfahcmnnaa", sum := "9eea8ed4f0162e88953632fd9fe4baa6781d1d407f2881cb6c1b746b63e69880", func := "loop.example/g01062/laws.FnExactFewestTrials", spec := "fnExactFewestTrials", unfollowed := true, recurses := true, apart := false }
def FnExactFewestTrialsSaid : Prop := fnExactFewestTrialsRow.holds Try.pinned (OpenSpec.ofChange fnExactFewestTrialsSpec)

/-- ITS FALSE NEIGHBOUR: 'it returns false'. Refute it at one input. -/
def fnExactFewestTrialsWrong : ChangeSpec := { name := "fnExactFewestTrials", fn := fun _ => fun
  | [d1, d2, d3, d4] => { results := [.lit (.bool false)], args := [d1, d2, d3, d4] }
  | _ => none }
def FnExactFewestTrialsWrongFalsely : Prop := fnExactFewestTrialsRow.holds Try.pinned (OpenSpec.ofChange fnExactFewestTrialsWrong)

/-- 'laws.FnExactCheapestTrials': WHATEVER THE INPUT: true; the input reads as it did. -/
def fnExactCheapestTrialsSpec : ChangeSpec := { name := "fnExactCheapestTrials", fn := fun _ => fun
  | [d1, d2, d3, d4] => { results := [.lit (.bool true)], args := [d1, d2, d3, d4] }
  | _ => none }
def fnExactCheapestTrialsRow : OpenClaim := { program := "ytlhfelfahcmnnaa", sum := "9eea8ed4f0162e88953632fd9fe4baa6781d1d407f2881cb6c1b746b63e69880", func := "loop.example/g01062/laws.FnExactCheapestTrials", spec := "fnExactCheapestTrials", unfollowed := true, recurses := true, apart := false }
def FnExactCheapestTrialsSaid : Prop := fnExactCheapestTrialsRow.holds Try.pinned (OpenSpec.ofChange fnExactCheapestTrialsSpec)

/-- ITS FALSE NEIGHBOUR: 'it returns false'. Refute it at one input. -/
def fnExactCheapestTrialsWrong : ChangeSpec := { name := "fnExactCheapestTrials", fn := fun _ => fun
  | [d1, d2, d3, d4] => { results := [.lit (.bool false)], args := [d1, d2, d3, d4] }
  | _ => none }
def FnExactCheapestTrialsWrongFalsely : Prop := fnExactCheapestTrialsRow.holds Try.pinned (OpenSpec.ofChange fnExactCheapestTrialsWrong)

/-- 'laws.FnTrials': WHATEVER THE INPUT: true; the input reads as it did. -/
def fnTrialsSpec : ChangeSpec := { name := "fnTrials", fn := fun _ => fun
  | [d] => { results := [.lit (.bool true)], args := [d] }
  | _ => none }
def fnTrialsRow : OpenClaim := { program := "ytlhfelfahcmnnaa", sum := "9eea8ed4f0162e88953632fd9fe4baa6781d1d407f2881cb6c1b746b63e69880", func := "loop.example/g01062/laws.FnTrials", spec := "fnTrials", unfollowed := true, recurses := true, apart := false }
def FnTrialsSaid : Prop := fnTrialsRow.holds Try.pinned (OpenSpec.ofChange fnTrialsSpec)

/-- ITS FALSE NEIGHBOUR: 'it returns false'. Refute it at one input. -/
def fnTrialsWrong : ChangeSpec := { name := "fnTrials", fn := fun _ => fun
  | [d] => { results := [.lit (.bool false)], args := [d] }
  | _ => none }
def FnTrialsWrongFalsely : Prop := fnTrialsRow.holds Try.pinned (OpenSpec.ofChange fnTrialsWrong)

/- THE SECOND FORM. 'bulk': how many values and letters a reading holds, each counted each time it is reached (what is shared counts as often as it is met; a slice's spare places count too). A statement '..UptoSaid' is the law's where the arguments, and the package variables that the reading takes, are together of bulk at most 1048576: NARROWER than '..Said'. Prove '..Said' where nothing that the law and all that it calls make is longer than what came in: it says more and counts as full. Else prove '..UptoSaid'. A law counts once. -/
mutual
def uptoBulk {H : Type} : DataW H → Nat
  | .lit (.string bytes) => bytes.length + 1
  | .lit _ => 1
  | .nil => 1
  | .ptr d => uptoBulk d + 1
  | .slice elems spare => uptoBulkAll elems + uptoBulkAll spare + 1
  | .agg parts => uptoBulkAll parts + 1
  | .iface _ d => uptoBulk d + 1
  | .map entries => uptoBulkEntries entries + 1
  | .held _ => 1
def uptoBulkAll {H : Type} : List (DataW H) → Nat
  | [] => 0
  | d :: r => uptoBulk d + uptoBulkAll r
def uptoBulkEntries {H : Type} : List (Lit × DataW H) → Nat
  | [] => 0
  | x :: r => uptoBulkEntry x + uptoBulkEntries r
def uptoBulkEntry {H : Type} : Lit × DataW H → Nat
  | (.string bytes, d) => bytes.length + uptoBulk d + 1
  | (_, d) => uptoBulk d + 1
 end
def uptoSmall : (H : Type) → List (DataW H) → Bool := fun _ ds => decide (uptoBulkAll ds ≤ 1048576)
def OpenSpec.upto (s : _root_.Go.ChangeSpec) : _root_.Go.OpenSpec := { _root_.Go.OpenSpec.ofChange s with cond := some uptoSmall }

/-- 'laws.FnExactDoesHelp', WHERE WHAT IT READS IS OF BULK AT MOST 1048576: true; the input reads as it did. -/
def fnExactDoesHelpUptoRow : OpenClaim := { program := "ytlhfelfahcmnnaa", sum := "9eea8ed4f0162e88953632fd9fe4baa6781d1d407f2881cb6c1b746b63e69880", func := "loop.example/g01062/laws.FnExactDoesHelp", spec := "fnExactDoesHelp", apart := false, narrowed := true }
def FnExactDoesHelpUptoSaid : Prop := fnExactDoesHelpUptoRow.holds Try.pinned (OpenSpec.upto fnExactDoesHelpSpec)

/-- 'laws.FnExactAreOdds', WHERE WHAT IT READS IS OF BULK AT MOST 1048576: true; the input reads as it did. -/
def fnExactAreOddsUptoRow : OpenClaim := { program := "ytlhfelfahcmnnaa", sum := "9eea8ed4f0162e88953632fd9fe4baa6781d1d407f2881cb6c1b746b63e69880", func := "loop.example/g01062/laws.FnExactAreOdds", spec := "fnExactAreOdds", apart := false, narrowed := true }
def FnExactAreOddsUptoSaid : Prop := fnExactAreOddsUptoRow.holds Try.pinned (OpenSpec.upto fnExactAreOddsSpec)

/-- 'laws.FnExactShareReal', WHERE WHAT IT READS IS OF BULK AT MOST 1048576: true; the input reads as it did. -/
def fnExactShareRealUptoRow : OpenClaim := { program := "ytlhfelfahcmnnaa", sum := "9eea8ed4f0162e88953632fd9fe4baa6781d1d407f2881cb6c1b746b63e69880", func := "loop.example/g01062/laws.FnExactShareReal", spec := "fnExactShareReal", apart := false, narrowed := true }
def FnExactShareRealUptoSaid : Prop := fnExactShareRealUptoRow.holds Try.pinned (OpenSpec.upto fnExactShareRealSpec)

/-- 'laws.FnExactAreTrials', WHERE WHAT IT READS IS OF BULK AT MOST 1048576: true; the input reads as it did. -/
def fnExactAreTrialsUptoRow : OpenClaim := { program := "ytlhfelfahcmnnaa", sum := "9eea8ed4f0162e88953632fd9fe4baa6781d1d407f2881cb6c1b746b63e69880", func := "loop.example/g01062/laws.FnExactAreTrials", spec := "fnExactAreTrials", unfollowed := true, recurses := true, apart := false, narrowed := true }
def FnExactAreTrialsUptoSaid : Prop := fnExactAreTrialsUptoRow.holds Try.pinned (OpenSpec.upto fnExactAreTrialsSpec)

/-- 'laws.FnExactBestTrial', WHERE WHAT IT READS IS OF BULK AT MOST 1048576: true; the input reads as it did. -/
def fnExactBestTrialUptoRow : OpenClaim := { program := "ytlhfelfahcmnnaa", sum := "9eea8ed4f0162e88953632fd9fe4baa6781d1d407f2881cb6c1b746b63e69880", func := "loop.example/g01062/laws.FnExactBestTrial", spec := "fnExactBestTrial", unfollowed := true, recurses := true, apart := false, narrowed := true }
def FnExactBestTrialUptoSaid : Prop := fnExactBestTrialUptoRow.holds Try.pinned (OpenSpec.upto fnExactBestTrialSpec)

/-- 'laws.FnExactResultChance', WHERE WHAT IT READS IS OF BULK AT MOST 1048576: true; the input reads as it did. -/
def fnExactResultChanceUptoRow : OpenClaim := { program := "ytlhfelfahcmnnaa", sum := "9eea8ed4f0162e88953632fd9fe4baa6781d1d407f2881cb6c1b746b63e69880", func := "loop.example/g01062/laws.FnExactResultChance", spec := "fnExactResultChance", unfollowed := true, recurses := true, apart := false, narrowed := true }
def FnExactResultChanceUptoSaid : Prop := fnExactResultChanceUptoRow.holds Try.pinned (OpenSpec.upto fnExactResultChanceSpec)

/-- 'laws.FnExactOddsAfter', WHERE WHAT IT READS IS OF BULK AT MOST 1048576: true; the input reads as it did. -/
def fnExactOddsAfterUptoRow : OpenClaim := { program := "ytlhfelfahcmnnaa", sum := "9eea8ed4f0162e88953632fd9fe4baa6781d1d407f2881cb6c1b746b63e69880", func := "loop.example/g01062/laws.FnExactOddsAfter", spec := "fnExactOddsAfter", unfollowed := true, recurses := true, apart := false, narrowed := true }
def FnExactOddsAfterUptoSaid : Prop := fnExactOddsAfterUptoRow.holds Try.pinned (OpenSpec.upto fnExactOddsAfterSpec)

/-- 'laws.FnExactFewestTrials', WHERE WHAT IT READS IS OF BULK AT MOST 1048576: true; the input reads as it did. -/
def fnExactFewestTrialsUptoRow : OpenClaim := { program := "ytlhfelfahcmnnaa", sum := "9eea8ed4f0162e88953632fd9fe4baa6781d1d407f2881cb6c1b746b63e69880", func := "loop.example/g01062/laws.FnExactFewestTrials", spec := "fnExactFewestTrials", unfollowed := true, recurses := true, apart := false, narrowed := true }
def FnExactFewestTrialsUptoSaid : Prop := fnExactFewestTrialsUptoRow.holds Try.pinned (OpenSpec.upto fnExactFewestTrialsSpec)

/-- 'laws.FnExactCheapestTrials', WHERE WHAT IT READS IS OF BULK AT MOST 1048576: true; the input reads as it did. -/
def fnExactCheapestTrialsUptoRow : OpenClaim := { program := "ytlhfelfahcmnnaa", sum := "9eea8ed4f0162e88953632fd9fe4baa6781d1d407f2881cb6c1b746b63e69880", func := "loop.example/g01062/laws.FnExactCheapestTrials", spec := "fnExactCheapestTrials", unfollowed := true, recurses := true, apart := false, narrowed := true }
def FnExactCheapestTrialsUptoSaid : Prop := fnExactCheapestTrialsUptoRow.holds Try.pinned (OpenSpec.upto fnExactCheapestTrialsSpec)

/-- 'laws.FnTrials', WHERE WHAT IT READS IS OF BULK AT MOST 1048576: true; the input reads as it did. -/
def fnTrialsUptoRow : OpenClaim := { program := "ytlhfelfahcmnnaa", sum := "9eea8ed4f0162e88953632fd9fe4baa6781d1d407f2881cb6c1b746b63e69880", func := "loop.example/g01062/laws.FnTrials", spec := "fnTrials", unfollowed := true, recurses := true, apart := false, narrowed := true }
def FnTrialsUptoSaid : Prop := fnTrialsUptoRow.holds Try.pinned (OpenSpec.upto fnTrialsSpec)

end Rows
end Go.Proofs.Ytlhfelfahcmnnaa
