/-
  No cell of these rows narrows 'for every input' (looked for: loops, veiled, ifaces, maps, wideKeys, modest, calm, conditions, laid).
  DERIVED. THE GIVEN ROWS OF THIS SEAT. 5 by the template 'for every input the law returns true; each argument reads behind the call as it read before'; 0 by the template 'total and deterministic' (their statements: YtehoocnhooemoaaTotals.lean).
  GIVEN WITH THE SEED: the statements are not yours to turn. If you find one false, say at which input.
  Laid BY PROGRAM, IN A SANDBOX (cutbox-rows.mjs): the forced cells as the released guide's own fill.sh prints them over the translation 80ae402a06120d60… (all of the seat's roots in one cut). By AI agents, Wed Nov 11 2026. No macro, syntax, notation, axiom, sorry.
-/
import Derived.Test.YtehoocnhooemoaaChecked
import GoSem.Claim
import GoSem.ClaimJoined
import GoSem.ClaimMapViews
import Derived.JoinedTies
import Derived.KernelRfl
namespace Go.Proofs.Ytehoocnhooemoaa
/- THE CELL 'sum', in the pinned program and in every row, IS THE sha256 OF THE DUMP (.gsa) THAT YtehoocnhooemoaaProg.lean LOADS. Nothing in Lean hashes anything: it is a label: what it is worth is what the hold of that sum in a sandbox is worth. -/
noncomputable def Try.pinned : Pinned := { name := "ytehoocnhooemoaa", sum := "80ae402a06120d600667d0c2f57c0841133320b78e9ec6787f7ef566762e8947", checked := Try.checked }
namespace Rows
def none {H : Type} : Left H := { results := [], args := [] }

/-- 'laws.FnExactAddPage': WHATEVER THE INPUT: true; the input reads as it did. -/
def fnExactAddPageSpec : ChangeSpec := { name := "fnExactAddPage", fn := fun _ => fun
  | [d1, d2, d3] => { results := [.lit (.bool true)], args := [d1, d2, d3] }
  | _ => none }
def fnExactAddPageRow : OpenClaim := { program := "ytehoocnhooemoaa", sum := "80ae402a06120d600667d0c2f57c0841133320b78e9ec6787f7ef566762e8947", func := "loop.example/g01062/laws.FnExactAddPage", spec := "fnExactAddPage", unfollowed := true, recurses := true, apart := false }
def FnExactAddPageSaid : Prop := fnExactAddPageRow.holds Try.pinned (OpenSpec.ofChange fnExactAddPageSpec)

/-- ITS FALSE NEIGHBOUR: 'it returns false'. Refute it at one input. -/
def fnExactAddPageWrong : ChangeSpec := { name := "fnExactAddPage", fn := fun _ => fun
  | [d1, d2, d3] => { results := [.lit (.bool false)], args := [d1, d2, d3] }
  | _ => none }
def FnExactAddPageWrongFalsely : Prop := fnExactAddPageRow.holds Try.pinned (OpenSpec.ofChange fnExactAddPageWrong)

/-- 'laws.FnExactItemsUnder': WHATEVER THE INPUT: true; the input reads as it did. -/
def fnExactItemsUnderSpec : ChangeSpec := { name := "fnExactItemsUnder", fn := fun _ => fun
  | [d1, d2] => { results := [.lit (.bool true)], args := [d1, d2] }
  | _ => none }
def fnExactItemsUnderRow : OpenClaim := { program := "ytehoocnhooemoaa", sum := "80ae402a06120d600667d0c2f57c0841133320b78e9ec6787f7ef566762e8947", func := "loop.example/g01062/laws.FnExactItemsUnder", spec := "fnExactItemsUnder", unfollowed := true, recurses := true, apart := false }
def FnExactItemsUnderSaid : Prop := fnExactItemsUnderRow.holds Try.pinned (OpenSpec.ofChange fnExactItemsUnderSpec)

/-- ITS FALSE NEIGHBOUR: 'it returns false'. Refute it at one input. -/
def fnExactItemsUnderWrong : ChangeSpec := { name := "fnExactItemsUnder", fn := fun _ => fun
  | [d1, d2] => { results := [.lit (.bool false)], args := [d1, d2] }
  | _ => none }
def FnExactItemsUnderWrongFalsely : Prop := fnExactItemsUnderRow.holds Try.pinned (OpenSpec.ofChange fnExactItemsUnderWrong)

/-- 'laws.FnExactMovePage': WHATEVER THE INPUT: true; the input reads as it did. -/
def fnExactMovePageSpec : ChangeSpec := { name := "fnExactMovePage", fn := fun _ => fun
  | [d1, d2, d3] => { results := [.lit (.bool true)], args := [d1, d2, d3] }
  | _ => none }
def fnExactMovePageRow : OpenClaim := { program := "ytehoocnhooemoaa", sum := "80ae402a06120d600667d0c2f57c0841133320b78e9ec6787f7ef566762e8947", func := "loop.example/g01062/laws.FnExactMovePage", spec := "fnExactMovePage", unfollowed := true, recurses := true, apart := false }
def FnExactMovePageSaid : Prop := fnExactMovePageRow.holds Try.pinned (OpenSpec.ofChange fnExactMovePageSpec)

/-- ITS FALSE NEIGHBOUR: 'it returns false'. Refute it at one input. -/
def fnExactMovePageWrong : ChangeSpec := { name := "fnExactMovePage", fn := fun _ => fun
  | [d1, d2, d3] => { results := [.lit (.bool false)], args := [d1, d2, d3] }
  | _ => none }
def FnExactMovePageWrongFalsely : Prop := fnExactMovePageRow.holds Try.pinned (OpenSpec.ofChange fnExactMovePageWrong)

/-- 'laws.FnExactPutItem': WHATEVER THE INPUT: true; the input reads as it did. -/
def fnExactPutItemSpec : ChangeSpec := { name := "fnExactPutItem", fn := fun _ => fun
  | [d1, d2, d3] => { results := [.lit (.bool true)], args := [d1, d2, d3] }
  | _ => none }
def fnExactPutItemRow : OpenClaim := { program := "ytehoocnhooemoaa", sum := "80ae402a06120d600667d0c2f57c0841133320b78e9ec6787f7ef566762e8947", func := "loop.example/g01062/laws.FnExactPutItem", spec := "fnExactPutItem", inPlace := ["slices.overlaps[int]"], unfollowed := true, recurses := true, apart := false }
def FnExactPutItemSaid : Prop := fnExactPutItemRow.holds Try.pinned (OpenSpec.ofChange fnExactPutItemSpec)

/-- ITS FALSE NEIGHBOUR: 'it returns false'. Refute it at one input. -/
def fnExactPutItemWrong : ChangeSpec := { name := "fnExactPutItem", fn := fun _ => fun
  | [d1, d2, d3] => { results := [.lit (.bool false)], args := [d1, d2, d3] }
  | _ => none }
def FnExactPutItemWrongFalsely : Prop := fnExactPutItemRow.holds Try.pinned (OpenSpec.ofChange fnExactPutItemWrong)

/-- 'laws.FnExactTakeItem': WHATEVER THE INPUT: true; the input reads as it did. -/
def fnExactTakeItemSpec : ChangeSpec := { name := "fnExactTakeItem", fn := fun _ => fun
  | [d1, d2] => { results := [.lit (.bool true)], args := [d1, d2] }
  | _ => none }
def fnExactTakeItemRow : OpenClaim := { program := "ytehoocnhooemoaa", sum := "80ae402a06120d600667d0c2f57c0841133320b78e9ec6787f7ef566762e8947", func := "loop.example/g01062/laws.FnExactTakeItem", spec := "fnExactTakeItem", unfollowed := true, recurses := true, apart := false }
def FnExactTakeItemSaid : Prop := fnExactTakeItemRow.holds Try.pinned (OpenSpec.ofChange fnExactTakeItemSpec)

/-- ITS FALSE NEIGHBOUR: 'it returns false'. Refute it at one input. -/
def fnExactTakeItemWrong : ChangeSpec := { name := "fnExactTakeItem", fn := fun _ => fun
  | [d1, d2] => { results := [.lit (.bool false)], args := [d1, d2] }
  | _ => none }
def FnExactTakeItemWrongFalsely : Prop := fnExactTakeItemRow.holds Try.pinned (OpenSpec.ofChange fnExactTakeItemWrong)

/- THE SECOND FORM. 'bulk': how many values and letters a reading holds, each counted each time it is reached (what is shared counts as often as it is met; a slice's spare places count too). A statement '..UptoSaid' is the law's where the arguments, and the package variables that the reading takes, are together of bulk at most 1048576: NARROWER than '..Said'. Prove '..Said' where nothing that the law and all that it calls make is longer than what came in: it says more and counts as full. Else prove '..UptoSaid'. A law counts once. -/
mutual
def uptoBulk {H : Type} : DataW H → Nat
  | .lit (.string bytes) => bytes.length + 1
  | .lit _ => 1
  | .nil => 1
  | .ptr d => uptoBulk d + 1
  | .slice elems spare => uptoBulkAll elems + uptoBulkAll spare + 1
  | .agg parts => uptoBulkAll parts + 1
  | .iface _ d => uptoBulk d + 1
  | .map entries => uptoBulkEntries entries + 1
  | .held _ => 1
def uptoBulkAll {H : Type} : List (DataW H) → Nat
  | [] => 0
  | d :: r => uptoBulk d + uptoBulkAll r
def uptoBulkEntries {H : Type} : List (Lit × DataW H) → Nat
  | [] => 0
  | x :: r => uptoBulkEntry x + uptoBulkEntries r
def uptoBulkEntry {H : Type} : Lit × DataW H → Nat
  | (.string bytes, d) => bytes.length + uptoBulk d + 1
  | (_, d) => uptoBulk d + 1
 end
def uptoSmall : (H : Type) → List (DataW H) → Bool := fun _ ds => decide (uptoBulkAll ds ≤ 1048576)
def OpenSpec.upto (s : _root_.Go.ChangeSpec) : _root_.Go.OpenSpec := { _root_.Go.OpenSpec.ofChange s with cond := some uptoSmall }

/-- 'laws.FnExactAddPage', WHERE WHAT IT READS IS OF BULK AT MOST 1048576: true; the input reads as it did. -/
def fnExactAddPageUptoRow : OpenClaim := { program := "ytehoocnhooemoaa", sum := "80ae402a06120d600667d0c2f57c0841133320b78e9ec6787f7ef566762e8947", func := "loop.example/g01062/laws.FnExactAddPage", spec := "fnExactAddPage", unfollowed := true, recurses := true, apart := false, narrowed := true }
def FnExactAddPageUptoSaid : Prop := fnExactAddPageUptoRow.holds Try.pinned (OpenSpec.upto fnExactAddPageSpec)

/-- 'laws.FnExactItemsUnder', WHERE WHAT IT READS IS OF BULK AT MOST 1048576: true; the input reads as it did. -/
def fnExactItemsUnderUptoRow : OpenClaim := { program := "ytehoocnhooemoaa", sum := "80ae402a06120d600667d0c2f57c0841133320b78e9ec6787f7ef566762e8947", func := "loop.example/g01062/laws.FnExactItemsUnder", spec := "fnExactItemsUnder", unfollowed := true, recurses := true, apart := false, narrowed := true }
def FnExactItemsUnderUptoSaid : Prop := fnExactItemsUnderUptoRow.holds Try.pinned (OpenSpec.upto fnExactItemsUnderSpec)

/-- 'laws.FnExactMovePage', WHERE WHAT IT READS IS OF BULK AT MOST 1048576: true; the input reads as it did. -/
def fnExactMovePageUptoRow : OpenClaim := { program := "ytehoocnhooemoaa", sum := "80ae402a06120d600667d0c2f57c0841133320b78e9ec6787f7ef566762e8947", func := "loop.example/g01062/laws.FnExactMovePage", spec := "fnExactMovePage", unfollowed := true, recurses := true, apart := false, narrowed := true }
def FnExactMovePageUptoSaid : Prop := fnExactMovePageUptoRow.holds Try.pinned (OpenSpec.upto fnExactMovePageSpec)

/-- 'laws.FnExactPutItem', WHERE WHAT IT READS IS OF BULK AT MOST 1048576: true; the input reads as it did. -/
def fnExactPutItemUptoRow : OpenClaim := { program := "ytehoocnhooemoaa", sum := "80ae402a06120d600667d0c2f57c0841133320b78e9ec6787f7ef566762e8947", func := "loop.example/g01062/laws.FnExactPutItem", spec := "fnExactPutItem", inPlace := ["slices.overlaps[int]"], unfollowed := true, recurses := true, apart := false, narrowed := true }
def FnExactPutItemUptoSaid : Prop := fnExactPutItemUptoRow.holds Try.pinned (OpenSpec.upto fnExactPutItemSpec)

/-- 'laws.FnExactTakeItem', WHERE WHAT IT READS IS OF BULK AT MOST 1048576: true; the input reads as it did. -/
def fnExactTakeItemUptoRow : OpenClaim := { program := "ytehoocnhooemoaa", sum := "80ae402a06120d600667d0c2f57c0841133320b78e9ec6787f7ef566762e8947", func := "loop.example/g01062/laws.FnExactTakeItem", spec := "fnExactTakeItem", unfollowed := true, recurses := true, apart := false, narrowed := true }
def FnExactTakeItemUptoSaid : Prop := fnExactTakeItemUptoRow.holds Try.pinned (OpenSpec.upto fnExactTakeItemSpec)

end Rows
end Go.Proofs.Ytehoocnhooemoaa
