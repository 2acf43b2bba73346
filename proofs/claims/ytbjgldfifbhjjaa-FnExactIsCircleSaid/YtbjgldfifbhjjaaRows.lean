/-
  No cell of these rows narrows 'for every input' (looked for: loops, veiled, ifaces, maps, wideKeys, modest, calm, conditions, laid).
  DERIVED. THE GIVEN ROWS OF THIS SEAT. 6 by the template 'for every input the law returns true; each argument reads behind the call as it read before'; 0 by the template 'total and deterministic' (their statements: YtbjgldfifbhjjaaTotals.lean).
  GIVEN WITH THE SEED: the statements are not yours to turn. If you find one false, say at which input.
  Laid BY PROGRAM, IN A SANDBOX (cutbox-rows.mjs): the forced cells as the released guide's own fill.sh prints them over the translation ad53b7c931378a50… (all of the seat's roots in one cut). By AI agents, Wed Nov 11 2026. No macro, syntax, notation, axiom, sorry.
-/
import Derived.Test.YtbjgldfifbhjjaaChecked
import GoSem.Claim
import GoSem.ClaimJoined
import GoSem.ClaimMapViews
import Derived.JoinedTies
import Derived.KernelRfl
namespace Go.Proofs.Ytbjgldfifbhjjaa
/- THE CELL 'sum', in the pinned program and in every row, IS THE sha256 OF THE DUMP (.gsa) THAT YtbjgldfifbhjjaaProg.lean LOADS. Nothing in Lean hashes anything: it is a label: what it is worth is what the hold of that sum in a sandbox is worth. -/
noncomputable def Try.pinned : Pinned := { name := "ytbjgldfifbhjjaa", sum := "ad53b7c931378a504196b96093c6e78e2586f6e6b9b2a1047f716d5c456b2514", checked := Try.checked }
namespace Rows
def none {H : Type} : Left H := { results := [], args := [] }

/-- 'laws.FnExactSheetState': WHATEVER THE INPUT: true; the input reads as it did. -/
def fnExactSheetStateSpec : ChangeSpec := { name := "fnExactSheetState", fn := fun _ => fun
  | [d1, d2, d3] => { results := [.lit (.bool true)], args := [d1, d2, d3] }
  | _ => none }
def fnExactSheetStateRow : OpenClaim := { program := "ytbjgldfifbhjjaa", sum := "ad53b7c931378a504196b96093c6e78e2586f6e6b9b2a1047f716d5c456b2514", func := "loop.example/g01062/laws.FnExactSheetState", spec := "fnExactSheetState", unfollowed := true, recurses := true, apart := false }
def FnExactSheetStateSaid : Prop := fnExactSheetStateRow.holds Try.pinned (OpenSpec.ofChange fnExactSheetStateSpec)

/-- ITS FALSE NEIGHBOUR: 'it returns false'. Refute it at one input. -/
def fnExactSheetStateWrong : ChangeSpec := { name := "fnExactSheetState", fn := fun _ => fun
  | [d1, d2, d3] => { results := [.lit (.bool false)], args := [d1, d2, d3] }
  | _ => none }
def FnExactSheetStateWrongFalsely : Prop := fnExactSheetStateRow.holds Try.pinned (OpenSpec.ofChange fnExactSheetStateWrong)

/-- 'laws.FnExactAddFlaw': WHATEVER THE INPUT: true; the input reads as it did. -/
def fnExactAddFlawSpec : ChangeSpec := { name := "fnExactAddFlaw", fn := fun _ => fun
  | [d1, d2] => { results := [.lit (.bool true)], args := [d1, d2] }
  | _ => none }
def fnExactAddFlawRow : OpenClaim := { program := "ytbjgldfifbhjjaa", sum := "ad53b7c931378a504196b96093c6e78e2586f6e6b9b2a1047f716d5c456b2514", func := "loop.example/g01062/laws.FnExactAddFlaw", spec := "fnExactAddFlaw", inPlace := ["slices.overlaps[loop.example/g01062/impl.Flaw]"], unfollowed := true, recurses := true, apart := false }
def FnExactAddFlawSaid : Prop := fnExactAddFlawRow.holds Try.pinned (OpenSpec.ofChange fnExactAddFlawSpec)

/-- ITS FALSE NEIGHBOUR: 'it returns false'. Refute it at one input. -/
def fnExactAddFlawWrong : ChangeSpec := { name := "fnExactAddFlaw", fn := fun _ => fun
  | [d1, d2] => { results := [.lit (.bool false)], args := [d1, d2] }
  | _ => none }
def FnExactAddFlawWrongFalsely : Prop := fnExactAddFlawRow.holds Try.pinned (OpenSpec.ofChange fnExactAddFlawWrong)

/-- 'laws.FnExactLookAlikes': WHATEVER THE INPUT: true; the input reads as it did. -/
def fnExactLookAlikesSpec : ChangeSpec := { name := "fnExactLookAlikes", fn := fun _ => fun
  | [d1, d2] => { results := [.lit (.bool true)], args := [d1, d2] }
  | _ => none }
def fnExactLookAlikesRow : OpenClaim := { program := "ytbjgldfifbhjjaa", sum := "ad53b7c931378a504196b96093c6e78e2586f6e6b9b2a1047f716d5c456b2514", func := "loop.example/g01062/laws.FnExactLookAlikes", spec := "fnExactLookAlikes", unfollowed := true, recurses := true, apart := false }
def FnExactLookAlikesSaid : Prop := fnExactLookAlikesRow.holds Try.pinned (OpenSpec.ofChange fnExactLookAlikesSpec)

/-- ITS FALSE NEIGHBOUR: 'it returns false'. Refute it at one input. -/
def fnExactLookAlikesWrong : ChangeSpec := { name := "fnExactLookAlikes", fn := fun _ => fun
  | [d1, d2] => { results := [.lit (.bool false)], args := [d1, d2] }
  | _ => none }
def FnExactLookAlikesWrongFalsely : Prop := fnExactLookAlikesRow.holds Try.pinned (OpenSpec.ofChange fnExactLookAlikesWrong)

/-- 'laws.FnPositions': WHATEVER THE INPUT: true; the input reads as it did. -/
def fnPositionsSpec : ChangeSpec := { name := "fnPositions", fn := fun _ => fun
  | [d] => { results := [.lit (.bool true)], args := [d] }
  | _ => none }
def fnPositionsRow : OpenClaim := { program := "ytbjgldfifbhjjaa", sum := "ad53b7c931378a504196b96093c6e78e2586f6e6b9b2a1047f716d5c456b2514", func := "loop.example/g01062/laws.FnPositions", spec := "fnPositions", unfollowed := true, recurses := true, apart := false }
def FnPositionsSaid : Prop := fnPositionsRow.holds Try.pinned (OpenSpec.ofChange fnPositionsSpec)

/-- ITS FALSE NEIGHBOUR: 'it returns false'. Refute it at one input. -/
def fnPositionsWrong : ChangeSpec := { name := "fnPositions", fn := fun _ => fun
  | [d] => { results := [.lit (.bool false)], args := [d] }
  | _ => none }
def FnPositionsWrongFalsely : Prop := fnPositionsRow.holds Try.pinned (OpenSpec.ofChange fnPositionsWrong)

/-- 'laws.FnExactAreWishes': WHATEVER THE INPUT: true; the input reads as it did. -/
def fnExactAreWishesSpec : ChangeSpec := { name := "fnExactAreWishes", fn := fun _ => fun
  | [d1, d2] => { results := [.lit (.bool true)], args := [d1, d2] }
  | _ => none }
def fnExactAreWishesRow : OpenClaim := { program := "ytbjgldfifbhjjaa", sum := "ad53b7c931378a504196b96093c6e78e2586f6e6b9b2a1047f716d5c456b2514", func := "loop.example/g01062/laws.FnExactAreWishes", spec := "fnExactAreWishes", apart := false }
def FnExactAreWishesSaid : Prop := fnExactAreWishesRow.holds Try.pinned (OpenSpec.ofChange fnExactAreWishesSpec)

/-- ITS FALSE NEIGHBOUR: 'it returns false'. Refute it at one input. -/
def fnExactAreWishesWrong : ChangeSpec := { name := "fnExactAreWishes", fn := fun _ => fun
  | [d1, d2] => { results := [.lit (.bool false)], args := [d1, d2] }
  | _ => none }
def FnExactAreWishesWrongFalsely : Prop := fnExactAreWishesRow.holds Try.pinned (OpenSpec.ofChange fnExactAreWishesWrong)

/-- 'laws.FnExactIsCircle': WHATEVER THE INPUT: true; the input reads as it did. -/
def fnExactIsCircleSpec : ChangeSpec := { name := "fnExactIsCircle", fn := fun _ => fun
  | [d1, d2, d3] => { results := [.lit (.bool true)], args := [d1, d2, d3] }
  | _ => none }
def fnExactIsCircleRow : OpenClaim := { program := "ytbjgldfifbhjjaa", sum := "ad53b7c931378a504196b96093c6e78e2586f6e6b9b2a1047f716d5c456b2514", func := "loop.example/g01062/laws.FnExactIsCircle", spec := "fnExactIsCircle", apart := false }
def FnExactIsCircleSaid : Prop := fnExactIsCircleRow.holds Try.pinned (OpenSpec.ofChange fnExactIsCircleSpec)

/-- ITS FALSE NEIGHBOUR: 'it returns false'. Refute it at one input. -/
def fnExactIsCircleWrong : ChangeSpec := { name := "fnExactIsCircle", fn := fun _ => fun
  | [d1, d2, d3] => { results := [.lit (.bool false)], args := [d1, d2, d3] }
  | _ => none }
def FnExactIsCircleWrongFalsely : Prop := fnExactIsCircleRow.holds Try.pinned (OpenSpec.ofChange fnExactIsCircleWrong)

/- THE SECOND FORM. 'bulk': how many values and letters a reading holds, each counted each time it is reached (what is shared counts as often as it is met; a slice's spare places count too). A statement '..UptoSaid' is the law's where the arguments, and the package variables that the reading takes, are together of bulk at most 1048576: NARROWER than '..Said'. Prove '..Said' where nothing that the law and all that it calls make is longer than what came in: it says more and counts as full. Else prove '..UptoSaid'. A law counts once. -/
mutual
def uptoBulk {H : Type} : DataW H → Nat
  | .lit (.string bytes) => bytes.length + 1
  | .lit _ => 1
  | .nil => 1
  | .ptr d => uptoBulk d + 1
  | .slice elems spare => uptoBulkAll elems + uptoBulkAll spare + 1
  | .agg parts => uptoBulkAll parts + 1
  | .iface _ d => uptoBulk d + 1
  | .map entries => uptoBulkEntries entries + 1
  | .held _ => 1
def uptoBulkAll {H : Type} : List (DataW H) → Nat
  | [] => 0
  | d :: r => uptoBulk d + uptoBulkAll r
def uptoBulkEntries {H : Type} : List (Lit × DataW H) → Nat
  | [] => 0
  | x :: r => uptoBulkEntry x + uptoBulkEntries r
def uptoBulkEntry {H : Type} : Lit × DataW H → Nat
  | (.string bytes, d) => bytes.length + uptoBulk d + 1
  | (_, d) => uptoBulk d + 1
 end
def uptoSmall : (H : Type) → List (DataW H) → Bool := fun _ ds => decide (uptoBulkAll ds ≤ 1048576)
def OpenSpec.upto (s : _root_.Go.ChangeSpec) : _root_.Go.OpenSpec := { _root_.Go.OpenSpec.ofChange s with cond := some uptoSmall }

/-- 'laws.FnExactSheetState', WHERE WHAT IT READS IS OF BULK AT MOST 1048576: true; the input reads as it did. -/
def fnExactSheetStateUptoRow : OpenClaim := { program := "ytbjgldfifbhjjaa", sum := "ad53b7c931378a504196b96093c6e78e2586f6e6b9b2a1047f716d5c456b2514", func := "loop.example/g01062/laws.FnExactSheetState", spec := "fnExactSheetState", unfollowed := true, recurses := true, apart := false, narrowed := true }
def FnExactSheetStateUptoSaid : Prop := fnExactSheetStateUptoRow.holds Try.pinned (OpenSpec.upto fnExactSheetStateSpec)

/-- 'laws.FnExactAddFlaw', WHERE WHAT IT READS IS OF BULK AT MOST 1048576: true; the input reads as it did. -/
def fnExactAddFlawUptoRow : OpenClaim := { program := "ytbjgldfifbhjjaa", sum := "ad53b7c931378a504196b96093c6e78e2586f6e6b9b2a1047f716d5c456b2514", func := "loop.example/g01062/laws.FnExactAddFlaw", spec := "fnExactAddFlaw", inPlace := ["slices.overlaps[loop.example/g01062/impl.Flaw]"], unfollowed := true, recurses := true, apart := false, narrowed := true }
def FnExactAddFlawUptoSaid : Prop := fnExactAddFlawUptoRow.holds Try.pinned (OpenSpec.upto fnExactAddFlawSpec)

/-- 'laws.FnExactLookAlikes', WHERE WHAT IT READS IS OF BULK AT MOST 1048576: true; the input reads as it did. -/
def fnExactLookAlikesUptoRow : OpenClaim := { program := "ytbjgldfifbhjjaa", sum := "ad53b7c931378a504196b96093c6e78e2586f6e6b9b2a1047f716d5c456b2514", func := "loop.example/g01062/laws.FnExactLookAlikes", spec := "fnExactLookAlikes", unfollowed := true, recurses := true, apart := false, narrowed := true }
def FnExactLookAlikesUptoSaid : Prop := fnExactLookAlikesUptoRow.holds Try.pinned (OpenSpec.upto fnExactLookAlikesSpec)

/-- 'laws.FnPositions', WHERE WHAT IT READS IS OF BULK AT MOST 1048576: true; the input reads as it did. -/
def fnPositionsUptoRow : OpenClaim := { program := "ytbjgldfifbhjjaa", sum := "ad53b7c931378a504196b96093c6e78e2586f6e6b9b2a1047f716d5c456b2514", func := "loop.example/g01062/laws.FnPositions", spec := "fnPositions", unfollowed := true, recurses := true, apart := false, narrowed := true }
def FnPositionsUptoSaid : Prop := fnPositionsUptoRow.holds Try.pinned (OpenSpec.upto fnPositionsSpec)

/-- 'laws.FnExactAreWishes', WHERE WHAT IT READS IS OF BULK AT MOST 1048576: true; the input reads as it did. -/
def fnExactAreWishesUptoRow : OpenClaim := { program := "ytbjgldfifbhjjaa", sum := "ad53b7c931378a504196b96093c6e78e2586f6e6b9b2a1047f716d5c456b2514", func := "loop.example/g01062/laws.FnExactAreWishes", spec := "fnExactAreWishes", apart := false, narrowed := true }
def FnExactAreWishesUptoSaid : Prop := fnExactAreWishesUptoRow.holds Try.pinned (OpenSpec.upto fnExactAreWishesSpec)

/-- 'laws.FnExactIsCircle', WHERE WHAT IT READS IS OF BULK AT MOST 1048576: true; the input reads as it did. -/
def fnExactIsCircleUptoRow : OpenClaim := { program := "ytbjgldfifbhjjaa", sum := "ad53b7c931378a504196b96093c6e78e2586f6e6b9b2a1047f716d5c456b2514", func := "loop.example/g01062/laws.FnExactIsCircle", spec := "fnExactIsCircle", apart := false, narrowed := true }
def FnExactIsCircleUptoSaid : Prop := fnExactIsCircleUptoRow.holds Try.pinned (OpenSpec.upto fnExactIsCircleSpec)

end Rows
end Go.Proofs.Ytbjgldfifbhjjaa
