/-
  No cell of these rows narrows 'for every input' (looked for: loops, veiled, ifaces, maps, wideKeys, modest, calm, conditions, laid).
  DERIVED. THE GIVEN ROWS OF THIS SEAT. 3 by the template 'for every input the law returns true; each argument reads behind the call as it read before'; 0 by the template 'total and deterministic' (their statements: YtpfkmfejginojaaTotals.lean).
  GIVEN WITH THE SEED: the statements are not yours to turn. If you find one false, say at which input.
  Laid BY PROGRAM, IN A SANDBOX (cutbox-rows.mjs): the forced cells as the released guide's own fill.sh prints them over the translation aad072f2e17fc3ae… (all of the seat's roots in one cut). By AI agents, Wed Nov 11 2026. No macro, syntax, notation, axiom, sorry.
-/
import Derived.Test.YtpfkmfejginojaaChecked
import GoSem.Claim
import GoSem.ClaimJoined
import GoSem.ClaimMapViews
import Derived.JoinedTies
import Derived.KernelRfl
namespace Go.Proofs.Ytpfkmfejginojaa
/- THE CELL 'sum', in the pinned program and in every row, IS THE sha256 OF THE DUMP (.gsa) THAT YtpfkmfejginojaaProg.lean LOADS. Nothing in Lean hashes anything: it is a label: what it is worth is what the hold of that sum in a sandbox is worth. -/
noncomputable def Try.pinned : Pinned := { name := "ytpfkmfejginojaa", sum := "aad072f2e17fc3aefb2fdb6d0ba14c82241bc9cbed9b8de16684707f502c013a", checked := Try.checked }
namespace Rows
def none {H : Type} : Left H := { results := [], args := [] }

/-- 'laws.FnExactFewestTrials': WHATEVER THE INPUT: true; the input reads as it did. -/
def fnExactFewestTrialsSpec : ChangeSpec := { name := "fnExactFewestTrials", fn := fun _ => fun
  | [d1, d2, d3, d4] => { results := [.lit (.bool true)], args := [d1, d2, d3, d4] }
  | _ => none }
def fnExactFewestTrialsRow : OpenClaim := { program := "ytpfkmfejginojaa", sum := "aad072f2e17fc3aefb2fdb6d0ba14c82241bc9cbed9b8de16684707f502c013a", func := "loop.example/g01062/laws.FnExactFewestTrials", spec := "fnExactFewestTrials", unfollowed := true, recurses := true, apart := false }
def FnExactFewestTrialsSaid : Prop := fnExactFewestTrialsRow.holds Try.pinned (OpenSpec.ofChange fnExactFewestTrialsSpec)

/-- ITS FALSE NEIGHBOUR: 'it returns false'. Refute it at one input. -/
def fnExactFewestTrialsWrong : ChangeSpec := { name := "fnExactFewestTrials", fn := fun _ => fun
  | [d1, d2, d3, d4] => { results := [.lit (.bool false)], args := [d1, d2, d3, d4] }
  | _ => none }
def FnExactFewestTrialsWrongFalsely : Prop := fnExactFewestTrialsRow.holds Try.pinned (OpenSpec.ofChange fnExactFewestTrialsWrong)

/-- 'laws.FnExactCheapestTrials': WHATEVER THE INPUT: true; the input reads as it did. -/
def fnExactCheapestTrialsSpec : ChangeSpec := { name := "fnExactCheapestTrials", fn := fun _ => fun
  | [d1, d2, d3, d4] => { results := [.lit (.bool true)], args := [d1, d2, d3, d4] }
  | _ => none }
def fnExactCheapestTrialsRow : OpenClaim := { program := "ytpfkmfejginojaa", sum := "aad072f2e17fc3aefb2fdb6d0ba14c82241bc9cbed9b8de16684707f502c013a", func := "loop.example/g01062/laws.FnExactCheapestTrials", spec := "fnExactCheapestTrials", unfollowed := true, recurses := true, apart := false }
def FnExactCheapestTrialsSaid : Prop := fnExactCheapestTrialsRow.holds Try.pinned (OpenSpec.ofChange fnExactCheapestTrialsSpec)

/-- ITS FALSE NEIGHBOUR: 'it returns false'. Refute it at one input. -/
def fnExactCheapestTrialsWrong : ChangeSpec := { name := "fnExactCheapestTrials", fn := fun _ => fun
  | [d1, d2, d3, d4] => { results := [.lit (.bool false)], args := [d1, d2, d3, d4] }
  | _ => none }
def FnExactCheapestTrialsWrongFalsely : Prop := fnExactCheapestTrialsRow.holds Try.pinned (OpenSpec.ofChange fnExactCheapestTrialsWrong)

/-- 'laws.FnTrials': WHATEVER THE INPUT: true; the input reads as it did. -/
def fnTrialsSpec : ChangeSpec := { name := "fnTrials", fn := fun _ => fun
  | [d] => { results := [.lit (.bool true)], args := [d] }
  | _ => none }
def fnTrialsRow : OpenClaim := { program := "ytpfkmfejginojaa", sum := "aad072f2e17fc3aefb2fdb6d0ba14c82241bc9cbed9b8de16684707f502c013a", func := "loop.example/g01062/laws.FnTrials", spec := "fnTrials", unfollowed := true, recurses := true, apart := false }
def FnTrialsSaid : Prop := fnTrialsRow.holds Try.pinned (OpenSpec.ofChange fnTrialsSpec)

/-- ITS FALSE NEIGHBOUR: 'it returns false'. Refute it at one input. -/
def fnTrialsWrong : ChangeSpec := { name := "fnTrials", fn := fun _ => fun
  | [d] => { results := [.lit (.bool false)], args := [d] }
  | _ => none }
def FnTrialsWrongFalsely : Prop := fnTrialsRow.holds Try.pinned (OpenSpec.ofChange fnTrialsWrong)

/- THE SECOND FORM. 'bulk': how many values and letters a reading holds, each counted each time it is reached (what is shared counts as often as it is met; a slice's spare places count too). A statement '..UptoSaid' is the law's where the arguments, and the package variables that the reading takes, are together of bulk at most 1048576: NARROWER than '..Said'. Prove '..Said' where nothing that the law and all that it calls make is longer than what came in: it says more and counts as full. Else prove '..UptoSaid'. A law counts once. -/
mutual
def uptoBulk {H : Type} : DataW H → Nat
  | .lit (.string bytes) => bytes.length + 1
  | .lit _ => 1
  | .nil => 1
  | .ptr d => uptoBulk d + 1
  | .slice elems spare => uptoBulkAll elems + uptoBulkAll spare + 1
  | .agg parts => uptoBulkAll parts + 1
  | .iface _ d => uptoBulk d + 1
  | .map entries => uptoBulkEntries entries + 1
  | .held _ => 1
def uptoBulkAll {H : Type} : List (DataW H) → Nat
  | [] => 0
  | d :: r => uptoBulk d + uptoBulkAll r
def uptoBulkEntries {H : Type} : List (Lit × DataW H) → Nat
  | [] => 0
  | x :: r => uptoBulkEntry x + uptoBulkEntries r
def uptoBulkEntry {H : Type} : Lit × DataW H → Nat
  | (.string bytes, d) => bytes.length + uptoBulk d + 1
  | (_, d) => uptoBulk d + 1
 end
def uptoSmall : (H : Type) → List (DataW H) → Bool := fun _ ds => decide (uptoBulkAll ds ≤ 1048576)
def OpenSpec.upto (s : _root_.Go.ChangeSpec) : _root_.Go.OpenSpec := { _root_.Go.OpenSpec.ofChange s with cond := some uptoSmall }

/-- 'laws.FnExactFewestTrials', WHERE WHAT IT READS IS OF BULK AT MOST 1048576: true; the input reads as it did. -/
def fnExactFewestTrialsUptoRow : OpenClaim := { program := "ytpfkmfejginojaa", sum := "aad072f2e17fc3aefb2fdb6d0ba14c82241bc9cbed9b8de16684707f502c013a", func := "loop.example/g01062/laws.FnExactFewestTrials", spec := "fnExactFewestTrials", unfollowed := true, recurses := true, apart := false, narrowed := true }
def FnExactFewestTrialsUptoSaid : Prop := fnExactFewestTrialsUptoRow.holds Try.pinned (OpenSpec.upto fnExactFewestTrialsSpec)

/-- 'laws.FnExactCheapestTrials', WHERE WHAT IT READS IS OF BULK AT MOST 1048576: true; the input reads as it did. -/
def fnExactCheapestTrialsUptoRow : OpenClaim := { program := "ytpfkmfejginojaa", sum := "aad072f2e17fc3aefb2fdb6d0ba14c82241bc9cbed9b8de16684707f502c013a", func := "loop.example/g01062/laws.FnExactCheapestTrials", spec := "fnExactCheapestTrials", unfollowed := true, recurses := true, apart := false, narrowed := true }
def FnExactCheapestTrialsUptoSaid : Prop := fnExactCheapestTrialsUptoRow.holds Try.pinned (OpenSpec.upto fnExactCheapestTrialsSpec)

/-- 'laws.FnTrials', WHERE WHAT IT READS IS OF BULK AT MOST 1048576: true; the input reads as it did. -/
def fnTrialsUptoRow : OpenClaim := { program := "ytpfkmfejginojaa", sum := "aad072f2e17fc3aefb2fdb6d0ba14c82241bc9cbed9b8de16684707f502c013a", func := "loop.example/g01062/laws.FnTrials", spec := "fnTrials", unfollowed := true, recurses := true, apart := false, narrowed := true }
def FnTrialsUptoSaid : Prop := fnTrialsUptoRow.holds Try.pinned (OpenSpec.upto fnTrialsSpec)

end Rows
end Go.Proofs.Ytpfkmfejginojaa
